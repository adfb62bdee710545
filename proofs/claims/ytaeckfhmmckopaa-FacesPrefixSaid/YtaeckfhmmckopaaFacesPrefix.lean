/-
  PROVED: lanelaw4.FacesPrefix returns true, for every list of ops and every number: of what is cautious, strict, rigorous, each beginning is so. No condition beyond the form's own reach.
-/
import Derived.Test.YtaeckfhmmckopaaFacesAll
import Derived.Test.YtaeckfhmmckopaaDone2
import Derived.Test.YtaeckfhmmckopaaOpen
namespace Go.Proofs.Ytaeckfhmmckopaa
open Go.ChangeShapes Go.WideShapes Go.ChangeAt Go.RowKit

set_option maxHeartbeats 1000000 in
theorem facesOf_no (A : Option Addr) (n cap : Nat) (h : List HOp) (w : World) (hr : Rd w w.heap.size 3 A n (cellsH h)) (hm : n ≤ 6000000000000) (hno : ¬ okH h) :
    Calls Try.prog 34 #[.slice A n cap] w fun e w' => e = .returned (.tuple #[.agg #[.bool false, .bool false, .bool false, .bool false], errV (checkF h).2]) ∧ Below w.heap.size w w' := by
  have HR := hide (fun w1 (hb : Below w.heap.size w w1) => right_h A n cap h w1 ((hr.below hb).more hb.size) hm)
  rw [ne_errV (show (checkF h).2 ≠ 0 from hno)] at HR ⊢
  generalize (checkF h).2 = ev at *
  clear hno
  go_enter Try.func34, Try.ntmps34
  have hb0 : Below w.heap.size w (w.alloc (.cells #[.bool false, .bool false, .bool false, .bool false] 67)) := (Below.refl _ _).alloc (Nat.le_refl _) _
  have HB0 := hide hb0
  clear hb0
  go_wp2_with fail
  refine (unhide HR _ (unhide HB0)).mono ?_
  rintro e w0 ⟨rfl, hb00⟩
  have hZ0 := (Blk.new w 67 [.bool false, .bool false, .bool false, .bool false]).below hb00 (by simp)
  have hbw0 := (unhide HB0).trans (hb00.mono (unhide HB0).size)
  clear hb00 HB0 HR
  obtain ⟨v0, v1, v2, v3, u0, u1, u2, u3⟩ := fcells hZ0
  have hR := (((hZ0.put 0 (.bool false)).put 1 (.bool false)).put 2 (.bool false)).put 3 (.bool false)
  obtain ⟨r0, r1, r2, r3, _⟩ := fcells (a := false) (b := false) (c := false) (d := false) hR
  go_wp2
  refine bodyPost_ret (v := .tuple #[.agg #[.bool false, .bool false, .bool false, .bool false], .iface 23 (.int .i64 ev)]) (by simp [results, Try.results34, go_sem, r0, r1, r2, r3]) rfl ?_
  exact ⟨rfl, (((hbw0.setCell (p := ⟨w.heap.size, 0, none⟩) (Nat.le_refl _) _).setCell (p := ⟨w.heap.size, 1, none⟩) (Nat.le_refl _) _).setCell (p := ⟨w.heap.size, 2, none⟩) (Nat.le_refl _) _).setCell (p := ⟨w.heap.size, 3, none⟩) (Nat.le_refl _) _⟩
end Go.Proofs.Ytaeckfhmmckopaa
namespace Go.Proofs.Ytaeckfhmmckopaa.facesPrefix
open Go.ChangeShapes Go.WideShapes Go.ChangeAt Go.RowKit Go.Proofs.Ytaeckfhmmckopaa

/-! ### The plain law. -/
theorem scan_take {p : List HOp → HOp → Bool} {h : List HOp} (k : Nat) (hs : scanB p [] h = true) : scanB p [] (h.take k) = true := by
  rw [← List.take_append_drop k h, scanB_append, Bool.and_eq_true] at hs
  exact hs.1
theorem checkGo_take {h : List HOp} : ∀ (es : List Bool) (i k : Nat), checkGo es i h = (0, 0) → checkGo es i (h.take k) = (0, 0) := by
  induction h with
  | nil => intros; simp [checkGo]
  | cons o r ih =>
    intro es i k hc
    cases k with
    | zero => rfl
    | succ k =>
      unfold checkGo at hc
      split at hc
      · simp at hc
      rename_i h1
      split at hc
      · simp at hc
      rename_i h2
      rw [List.take_succ_cons, checkGo, if_neg h1, if_neg h2]
      exact ih _ _ _ hc
theorem okH_take {h : List HOp} (hk : okH h) (k : Nat) : okH (h.take k) := by
  have := checkGo_take _ 0 k (okH_go hk)
  unfold okH checkF
  rw [if_neg (by have := okH_len hk; rw [List.length_take]; omega), this]
def lawB (f g : FacesV) : Bool := (!f.caut || g.caut) && (!f.strict || g.strict) && (!f.rig || g.rig)
theorem plain {h : List HOp} (k : Nat) : lawB (facesF h) (facesF (h.take k)) = true := by
  have h1 : (!(facesF h).caut || (facesF (h.take k)).caut) = true := by
    cases hc : scanB cautT [] h
    · simp [facesF, hc]
    · simp [facesF, scan_take k hc]
  have h2 : (!(facesF h).strict || (facesF (h.take k)).strict) = true := by
    cases hc : scanB strictT [] h
    · simp [facesF, hc]
    · simp [facesF, scan_take k hc]
  have h3 : (!(facesF h).rig || (facesF (h.take k)).rig) = true := by
    cases hc : scanB rigT [] h
    · simp [facesF, hc]
    · cases hd : scanB strictT [] h
      · simp [facesF, hd]
      · simp [facesF, scan_take k hc, scan_take k hd]
  simp only [lawB, h1, h2, h3, Bool.and_self]
theorem fact : okH [⟨1, 1, 1⟩, ⟨2, 2, 1⟩] ∧ (facesF [⟨1, 1, 1⟩, ⟨2, 2, 1⟩]).rig = false ∧ (facesF [⟨1, 1, 1⟩, ⟨2, 2, 1⟩]).strict = true := ⟨by show (checkF _).2 = 0; decide, by decide, by decide⟩

set_option maxRecDepth 100000 in
set_option maxHeartbeats 4000000 in
theorem walk (A : Option Addr) (n c : Nat) (h : List HOp) (cut : Int) (w : World) (hr : Rd w w.heap.size 3 A n (cellsH h)) (hn : n * 24 ≤ 140737488351232) (hcap : n ≤ c) :
    Calls Try.prog 10 #[.slice A n c, .int .i64 cut] w fun e w' => e = .returned (.bool true) ∧ Below w.heap.size w w' := by
  have HF1 := Lib.hid fact.1
  have HF2 := Lib.hid fact.2
  have hm : n ≤ 6000000000000 := by omega
  clear hn
  have CO := hide (fun w1 (hb : Below w.heap.size w w1) (hok : okH h) => facesOf_ok A n c h w1 ((hr.below hb).more hb.size) hcap hok)
  have CN := hide (fun w1 (hb : Below w.heap.size w w1) (hno : ¬ okH h) => facesOf_no A n c h w1 ((hr.below hb).more hb.size) hm hno)
  have CT := hide (fun w1 k (hk : k ≤ n) (hb : Below w.heap.size w w1) (hok : okH h) => facesOf_ok A k c (h.take k) w1 (((hr.below hb).more hb.size).take hk) (Nat.le_trans hk hcap) (okH_take hok k))
  go_enter Try.func10, Try.ntmps10
  go_wp2_with fail
  have hr0 := rd_new w 51 (size := 3) (n := 2) [.int .i64 1, .int .i64 1, .int .i64 1, .int .i64 2, .int .i64 2, .int .i64 1] rfl
  have hb0 : Below w.heap.size w (w.alloc (.cells #[.int .i64 1, .int .i64 1, .int .i64 1, .int .i64 2, .int .i64 2, .int .i64 1] 51)) := (Below.refl _ _).alloc (Nat.le_refl _) _
  refine Calls.mono (facesOf_ok (some ⟨w.heap.size, 0, none⟩) 2 2 [⟨1, 1, 1⟩, ⟨2, 2, 1⟩] _ (hr0.more (by simp)) (by omega) HF1.out) ?_
  rintro e w1 ⟨rfl, hb1⟩
  have hbw1 := hb0.trans (hb1.mono hb0.size)
  clear hr0 hb0 hb1
  have hg2 := HF2.out
  generalize facesF [⟨1, 1, 1⟩, ⟨2, 2, 1⟩] = F0 at *
  obtain ⟨fr, fc, fs, fg⟩ := F0
  simp only at hg2
  obtain ⟨rfl, rfl⟩ := hg2
  unfold FacesV.val
  simp only
  clear HF1 HF2
  have hbw2 := hbw1.alloc hbw1.size (.cells #[.bool fr, .bool fc, .bool true, .bool false] 67)
  by_cases hok : okH h
  · have HOK := Lib.hid hok
    clear hok CN
    go_wp2_with fail
    refine (unhide CO _ hbw2 HOK.out).mono ?_
    rintro e w2 ⟨rfl, hb2⟩
    have hbw3 := hbw2.trans (hb2.mono hbw2.size)
    have hP := fun k => plain (h := h) k
    have HP := hide hP
    clear hP hb2 hbw2 CO
    generalize hf : facesF h = F at *
    obtain ⟨Fr, Fc, Fs, Fg⟩ := F
    unfold FacesV.val
    simp only
    clear hf
    have hbw4 := hbw3.alloc hbw3.size (.cells #[.bool Fr, .bool Fc, .bool Fs, .bool Fg] 67)
    by_cases hc0 : cut < 0
    · go_wp2
      go_ret
      exact ⟨rfl, hbw4⟩
    by_cases hc1 : (n : Int) < cut
    · go_wp2
      go_ret
      exact ⟨rfl, hbw4⟩
    obtain ⟨k, rfl⟩ := Int.eq_ofNat_of_zero_le (show 0 ≤ cut by omega)
    have hk : k ≤ n := by omega
    have hk2 : k ≤ c := by omega
    have hz0 : w2.heap.size < w2.heap.size + 1 := by omega
    have z1 : (w2.alloc (.cells #[.bool Fr, .bool Fc, .bool Fs, .bool Fg] 67)).cell? ⟨w2.heap.size, 1, none⟩ = some (.bool Fc) := by simp [World.cell?_alloc_new]
    have hB4 := Blk.new w2 67 [.bool Fr, .bool Fc, .bool Fs, .bool Fg]
    go_wp2_with fail
    refine (unhide CT _ k hk hbw4 HOK.out).mono ?_
    rintro e w5 ⟨rfl, hb5⟩
    have hbw5 := hbw4.trans (hb5.mono hbw4.size)
    have hB5 := hB4.below hb5 hB4.lt
    have hP := unhide HP k
    generalize facesF (h.take k) = G at *
    obtain ⟨Gr, Gc, Gs, Gg⟩ := G
    unfold FacesV.val
    simp only
    simp only [lawB, Bool.and_eq_true, Bool.or_eq_true, Bool.not_eq_true'] at hP
    obtain ⟨⟨p1, p2⟩, p3⟩ := hP
    have hB6 := hB5.alloc (.cells #[.bool Gr, .bool Gc, .bool Gs, .bool Gg] 67)
    obtain ⟨f0, f1, f2, f3, _⟩ := fcells hB6
    have hB5lt := hB5.lt
    have hbw6 := hbw5.alloc hbw5.size (.cells #[.bool Gr, .bool Gc, .bool Gs, .bool Gg] 67)
    clear hB4 hB5 hB6 hb5 hbw4 hbw5 hbw3 z1 CT
    cases Fc
    all_goals
      cases Fs
      all_goals
        cases Fg
        all_goals
          simp only [true_or, false_or, Bool.true_eq_false] at p1 p2 p3
          try subst p1
          try subst p2
          try subst p3
          go_wp2
          go_ret
          exact ⟨rfl, hbw6⟩
  · have HNO := Lib.hid hok
    have hne : Hid ((checkF h).2 ≠ 0) := Lib.hid hok
    have CN2 := hide (fun w1 hb => unhide CN w1 hb HNO.out)
    rw [ne_errV hne.out] at CN2
    generalize (checkF h).2 = ev at *
    clear hok CO CT HNO hne CN
    go_wp2_with fail
    refine (unhide CN2 _ hbw2).mono ?_
    rintro e w2 ⟨rfl, hb2⟩
    have hbw3 := (hbw2.trans (hb2.mono hbw2.size))
    have hbw4 := hbw3.alloc hbw3.size (.cells #[.bool false, .bool false, .bool false, .bool false] 67)
    go_wp2
    go_ret
    exact ⟨rfl, hbw4⟩

theorem own : ownKnob Try.prog.godebug = none := by kernel_rfl
theorem bytes_opsc : Try.prog.bytesOf 51 = 24 := by kernel_rfl

/-! ### The row. -/
set_option maxRecDepth 100000 in
theorem lifted (os : Os) (started : os.Started) (H : Type) (enc : TypeId × Value → H) :
    ReturnsInHanded {} Try.checked os 10 .any (Rows.facesPrefixSpec.pre6 enc Try.prog Try.f10 Rows.facesPrefixRow.domain false) (Rows.facesPrefixSpec.post enc Try.prog Try.f10 false true false false) := by
  refine returnsInHanded_of_change_sized (C := Try.checked) own started (by kernel_rfl) Try.func10
    (ChangeSpec.witness6 (enc := enc) (C := Try.checked) false ⟨#[], #[.slice none 0 0, .int .i64 0], []⟩ 8 (by kernel_rfl) (by kernel_rfl) (by kernel_rfl) (by kernel_rfl)) ?_
  intro W base args ds gs before hval0 hW hcnd hsz0 _
  have hval : ∀ (j : Nat) t v, Try.f10.params[j]? = some t → args[j]? = some v → Value.okWide Try.prog W .any base t v := hval0
  have hW' := hW
  obtain ⟨p, q, hA0, hV, rfl, hfz, hnd⟩ := hW
  have hA : DataW.TrodAll enc Try.prog W 0 (fun _ => true) true Try.f10.params.toList args.toList ds p := hA0
  have hsz : (DataW.weightsEach Try.prog (Try.f10.params.toList ++ Rows.facesPrefixSpec.plain.varTypes Try.prog) (ds ++ gs)).all (· ≤ reachBytes) = true := hsz0
  rw [Try.params10] at hA hval hsz
  obtain ⟨v0, vs0, d0, ds0, p0, q0, hargs, rfl, rfl, h0, r0⟩ := trodAll_cons hA
  obtain ⟨v1, vs1, d1, ds1, p1, q1, rfl, rfl, rfl, h1, r1⟩ := trodAll_cons r0
  obtain ⟨rfl, rfl, rfl⟩ := trodAll_nil r1
  obtain rfl : args = #[v0, v1] := by cases args; simp_all
  obtain ⟨rfl, rfl⟩ := trodVars_none hV
  simp only [List.append_nil] at hW'
  have hk0 := h0
  have hlt0 : ∀ x ∈ p0, x.block < W.heap.size := fun x hx => hW'.lt x (by simp [hx])
  obtain ⟨A0, n0, c0, l0, rfl, rd0, bd0, cp0⟩ := open_opsc Try.underlying43 Try.underlying51 Try.underlying3 rfl rfl rfl (by kernel_rfl) (by kernel_rfl) (hval 0 43 v0 rfl rfl) h0 (fun e s he => by have := sized_slice hsz (j := 0) (t := 43) (e := 51) rfl (congrArg some he) Try.underlying43; rwa [bytes_opsc] at this)
  obtain ⟨a1, rfl, rfl, rfl, w1⟩ := open_int Try.underlying3 (hval 1 3 v1 rfl rfl) h1
  clear hA0 hval0
  refine (walk A0 n0 c0 l0 a1 W rd0 bd0 cp0).mono fun e W' ⟨he, hg⟩ => ?_
  subst he
  exact ⟨_, rfl, post_slices (pa := _) (pv := []) hW' hg (by simp) (fun _ _ _ => (trodAll_cons_mk (shut_bool Try.underlying4 _) trodAll_mk0)) (trodAll_cons_mk (Below.trod laidOut (by kernel_rfl) (of_decide_eq_true (by kernel_rfl)) hk0 hg hlt0) (trodAll_cons_mk (shut_int Try.underlying3 w1) trodAll_mk0)) rfl⟩

theorem over : Rows.facesPrefixRow.holds Try.pinned (OpenSpec.ofChange Rows.facesPrefixSpec) :=
  OpenClaim.holds_of_wide 10 Try.f10 rfl rfl rfl rfl rfl rfl rfl ⟨rfl, rfl, rfl, rfl, rfl⟩ rfl rfl rfl rfl rfl (by kernel_rfl) Try.func10 (by kernel_rfl)
    (of_decide_eq_true (by kernel_rfl)) (by unfold Func.isWrapper; first | (rw [if_pos (by decide +kernel)]; kernel_rfl) | (rw [if_neg (by decide +kernel)]; exact ⟨rfl, rfl⟩))
    (fun os started H enc _ => lifted os started H enc)

/-- The statement. -/
theorem proved : Rows.FacesPrefixSaid :=
  over
#print axioms proved

end Go.Proofs.Ytaeckfhmmckopaa.facesPrefix

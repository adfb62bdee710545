
/-
  PROVED: lanelaw2.VersionsTell returns true, for every list of ops: what any ops come to with versions, as the reference says. The variable errors.errorType starts as the program's text lays it (the card's tie); no condition beyond the form's own reach.
-/
import Derived.Test.YtfmdeahblaikoaaDoorVV1
import Derived.Test.YtfmdeahblaikoaaDoorTE4
import Derived.Test.YtfmdeahblaikoaaDoorE1

namespace Go.Proofs.YtfmdeahblaikoaaDoor.versionsTell
open Go.ChangeShapes Go.WideShapes Go.ChangeAt Go.RowKit Go.Proofs.YtfmdeahblaikoaaDoor

theorem dget_isSome {d : Dl} : ∀ {l : List Dl}, d ∈ l → (dget l d.tx).isSome = true
  | [], h => by cases h
  | a :: l, h => by
    rw [dget]
    by_cases e : a.tx = d.tx
    · rw [if_pos e]; rfl
    · rw [if_neg e]
      rcases List.mem_cons.1 h with h | h
      · exact absurd (by rw [h]) e
      · exact dget_isSome h
theorem dgd_at {s : VSt} {t : Int} (h : t ∈ s.ds.map (·.tx)) : (dgd s t).tx = t := by
  obtain ⟨d, hd, hdt⟩ := List.mem_map.1 h
  unfold dgd
  have h2 := dget_isSome hd
  rw [hdt] at h2
  cases hg : dget s.ds t with
  | none => rw [hg] at h2; cases h2
  | some e => exact (dget_tx hg).1
theorem inv_ref {h : List HOp} (hok : okH h) : InvG h h.length (playV (refR 4) h) := invG_play (R := refR 4) (fun s d i => refR_look 4 s d i) hok
/-- What the reference comes to: the deals by their numbers. -/
theorem facts {h : List HOp} (hok : okH h) {ts : List Int} (H : ByNum (playV verR h) ts) : byNumD (doneD (playV (refR 4) h)) = ts.map (dgd (playV verR h)) ∧ (ts.map (dgd (playV verR h))).map (·.tx) = ts ∧ (ts.map (dgd (playV verR h))).length ≤ 6 ∧ (playV (refR 4) h).dn.length ≤ 6 := by
  obtain ⟨_, _, _, h6, _, _⟩ := ver_serialL hok H
  have I := inv_ref hok
  rw [ref_ver hok] at I ⊢
  generalize playV verR h = s at *
  refine ⟨?_, ?_, by rw [List.length_map]; exact h6, ?_⟩
  · exact byNum_eq (s := mapLooks gVer s) I.nodup I.dnds I.dnN (fun d hd => (I.ok.deals d hd).tx) ⟨H.perm, H.up⟩
  · rw [List.map_map]
    have : ∀ t ∈ ts, ((fun d : Dl => d.tx) ∘ dgd s) t = t := fun t ht => dgd_at (I.dnds t (H.perm.mem_iff.1 ht))
    rw [List.map_congr_left this, List.map_id']
  · show s.dn.length ≤ 6
    rw [← H.perm.length_eq]; exact h6

set_option maxRecDepth 100000 in
set_option maxHeartbeats 4000000 in
theorem walk (A : Option Addr) (n c : Nat) (h : List HOp) (w : World) (hE : Et w) (hr : Rd w w.heap.size 3 A n (cellsH h)) (hn : n * 24 ≤ 140737488351232) :
    Calls Tryd.prog 3 #[.slice A n c] w fun e w' => e = .returned (.bool true) ∧ Below w.heap.size w w' := by
  have hm : n ≤ 6000000000000 := by omega
  have hz0 := hE.pos
  by_cases hok : okH h
  · have CV := hide (ver_run A n c h w hr hm hok)
    have CT := hide (fun w1 (hb : Below w.heap.size w w1) => tells4_ok A n c h w1 (hE.below hb hz0) ((hr.below hb).more hb.size) hm hok)
    have HFA := Lib.hid (fun ts (H : ByNum (playV verR h) ts) => facts hok H)
    clear hr hE hok hn
    go_enter Tryd.func3, Tryd.ntmps3
    go_wp2_with fail
    refine (unhide CV).mono ?_
    rintro e w1 ⟨ts, HB, A1, c1, A2, c2, b, n1, n2, rfl, h1, h2, h3, hb1, _⟩
    obtain ⟨f1, f2, f3, f4⟩ := HFA.out ts HB
    have h2' : Rd w1 w1.heap.size 3 A2 n2 (cellsH ((ts.map (dgd (playV verR h))).flatMap (·.seen))) := h2
    rw [← f2] at h1
    have hBg := Blk.new w1 26 [.slice A1 n1 c1, .slice A2 n2 c2, .slice (some ⟨b, 0, none⟩) 6 6]
    have hbg : Below w1.heap.size w1 (w1.alloc (.cells #[.slice A1 n1 c1, .slice A2 n2 c2, .slice (some ⟨b, 0, none⟩) 6 6] 26)) := (Below.refl _ _).alloc (Nat.le_refl _) _
    have hbw2 := hb1.trans (hbg.mono hb1.size)
    have CU := hide (unhide CT _ hbw2 _ f1 f3 f4 A1 A2 (some ⟨b, 0, none⟩) n1 n2 6 c1 c2 6 ((h1.below hbg).more hbg.size) ((h2'.below hbg).more hbg.size) ((h3.below hbg).more hbg.size))
    have z0 := hBg.cellS (i := 0) (v := .slice A1 n1 c1) rfl
    have z1 := hBg.cellS (i := 1) (v := .slice A2 n2 c2) rfl
    have z2 := hBg.cellS (i := 2) (v := .slice (some ⟨b, 0, none⟩) 6 6) rfl
    clear h1 h2 h2' h3 CT CV hBg hbg hb1 f1 f2 f3 f4 HFA HB
    go_wp2_with fail
    refine (unhide CU).mono ?_
    rintro e w3 ⟨rfl, hb3⟩
    have hbw3 := hbw2.trans (hb3.mono hbw2.size)
    go_wp2
    go_ret
    exact ⟨rfl, hbw3⟩
  · have CV := hide (ver_no A n c h w hr hm hok)
    have CT := hide (fun w1 (hb : Below w.heap.size w w1) => tells_no 4 A n c h w1 (hE.below hb hz0) ((hr.below hb).more hb.size) hm hok)
    clear hr hE hn
    have hne : (checkF h).2 ≠ 0 := hok
    rw [ne_errV hne] at CV CT
    clear hok
    generalize (checkF h).2 = ev at *
    go_enter Tryd.func3, Tryd.ntmps3
    go_wp2_with fail
    refine (unhide CV).mono ?_
    rintro e w1 ⟨rfl, hb1⟩
    have hBg := Blk.new w1 26 [.slice none 0 0, .slice none 0 0, .slice none 0 0]
    have hbg : Below w1.heap.size w1 (w1.alloc (.cells #[.slice none 0 0, .slice none 0 0, .slice none 0 0] 26)) := (Below.refl _ _).alloc (Nat.le_refl _) _
    have hbw2 := hb1.trans (hbg.mono hb1.size)
    have CU := hide (unhide CT _ hbw2)
    have z0 := hBg.cellS (i := 0) (v := .slice none 0 0) rfl
    have z1 := hBg.cellS (i := 1) (v := .slice none 0 0) rfl
    have z2 := hBg.cellS (i := 2) (v := .slice none 0 0) rfl
    clear CT CV hBg hbg hb1
    go_wp2_with fail
    refine (unhide CU).mono ?_
    rintro e w3 ⟨rfl, hb3⟩
    have hbw3 := hbw2.trans (hb3.mono hbw2.size)
    go_wp2
    go_ret
    exact ⟨rfl, hbw3⟩
theorem bytes_ops : Tryd.prog.bytesOf 129 = 24 := by kernel_rfl

/-! ### The row. -/
set_option maxRecDepth 100000 in
theorem lifted (os : Os) (started : os.Started) (H : Type) (enc : TypeId × Value → H) :
    ReturnsInHanded {} Tryd.checked os 3 .any (fun w args => (Rows.versionsTellSpec.pre enc Tryd.prog Tryd.f3 [] false w args ∧ laidMetH Tryd.prog dLaid w) ∧ sizedMet enc Tryd.prog Tryd.f3 (OpenSpec.ofChange Rows.versionsTellSpec) false w args) (Rows.versionsTellSpec.post enc Tryd.prog Tryd.f3 false true false false) := by
  refine returnsInHanded_of_change_and (C := Tryd.checked) (X := fun w _ => laidMetH Tryd.prog dLaid w) (fun _ _ _ hh h => h.of_heap hh) dOwn started (by kernel_rfl) Tryd.func3
    (ChangeSpec.witness_at (enc := enc) (C := Tryd.checked) (os := os) (X := fun w _ => laidMetH Tryd.prog dLaid w) false (laidWorld os) #[.slice none 0 0] 8 rfl (by kernel_rfl) (by kernel_rfl) (by kernel_rfl) (by kernel_rfl) (by kernel_rfl) (laidWorld_met os _)) ?_
  intro W base args ds gs before hval0 hW hcnd hsz0 hL _
  have hval : ∀ (j : Nat) t v, Tryd.f3.params[j]? = some t → args[j]? = some v → Value.okWide Tryd.prog W .any base t v := hval0
  have hW' := hW
  obtain ⟨p, q, hA0, hV, rfl, hfz, hnd⟩ := hW
  have hA : DataW.TrodAll enc Tryd.prog W 0 (fun _ => true) true Tryd.f3.params.toList args.toList ds p := hA0
  have hsz : (DataW.weightsEach Tryd.prog (Tryd.f3.params.toList ++ Rows.versionsTellSpec.plain.varTypes Tryd.prog) (ds ++ gs)).all (· ≤ reachBytes) = true := hsz0
  rw [Tryd.params3] at hA hval hsz
  obtain ⟨v0, vs0, d0, ds0, p0, q0, hargs, rfl, rfl, h0, r0⟩ := trodAll_cons hA
  obtain ⟨rfl, rfl, rfl⟩ := trodAll_nil r0
  obtain rfl : args = #[v0] := by cases args; simp_all
  obtain ⟨rfl, rfl⟩ := trodVars_none hV
  simp only [List.append_nil] at hW'
  have hk0 := h0
  have hlt0 : ∀ x ∈ p0, x.block < W.heap.size := fun x hx => hW'.lt x (by simp [hx])
  obtain ⟨A0, n0, c0, l0, rfl, rd0, bd0⟩ := open_ops Tryd.underlying22 Tryd.underlying129 Tryd.underlying3 rfl rfl rfl (by kernel_rfl) (by kernel_rfl) (hval 0 22 v0 rfl rfl) h0 (fun e s he => by have := sized_slice hsz (j := 0) (t := 22) (e := 129) rfl (congrArg some he) Tryd.underlying22; rwa [bytes_ops] at this)
  clear hA0 hval0
  refine (walk A0 n0 c0 l0 W (et_of_laid hL) rd0 bd0).mono fun e W' ⟨he, hg⟩ => ?_
  subst he
  exact ⟨_, rfl, post_slices (pa := _) (pv := []) hW' hg (by simp) (fun _ _ _ => (trodAll_cons_mk (shut_bool Tryd.underlying4 _) trodAll_mk0)) (trodAll_cons_mk (Below.trod laidOut (by kernel_rfl) (of_decide_eq_true (by kernel_rfl)) hk0 hg hlt0) trodAll_mk0) rfl⟩

theorem over : Rows.VersionsTellSaid :=
  OpenClaim.holds_of_wide 3 Tryd.f3 rfl rfl rfl rfl rfl rfl rfl ⟨rfl, rfl, rfl, rfl, rfl⟩ rfl rfl rfl rfl rfl (by kernel_rfl) Tryd.func3 (by kernel_rfl)
    (of_decide_eq_true (by kernel_rfl)) (by unfold Func.isWrapper; first | (rw [if_pos (by decide +kernel)]; kernel_rfl) | (rw [if_neg (by decide +kernel)]; exact ⟨rfl, rfl⟩))
    (fun os started H enc _ => lifted os started H enc)

/-- The statement: the tied card. -/
theorem proved : Rows.VersionsTellCardSaid :=
  Claim7.holds_tied_plain_at .later [] [.handle] true _ true
    over (fun _ h => by cases h) (by kernel_rfl) (fun _ h => by cases h) versionsTell_row_tie rfl ⟨rfl, rfl⟩ (by kernel_rfl) rfl
    (fun f fn hf hfn => by
      obtain rfl : f = 3 := Option.some.inj ((show Tryd.prog.funcNamed "locklane/lanelaw2.VersionsTell" = some 3 by kernel_rfl).symm.trans hf) |>.symm
      obtain rfl : fn = Tryd.f3 := (Option.some.inj (Tryd.func3.symm.trans hfn)).symm
      exact ⟨by kernel_rfl, fun j t ht => by
        rw [Tryd.params3] at ht
        have hm : t ∈ [22] := by have := Array.mem_of_getElem? ht; simpa using this
        have hall : ([22].all fun u => !Tryd.prog.wantsStandIn u) = true := by kernel_rfl
        exact (show Tryd.prog.wantsStandIn t = false by simpa using List.all_eq_true.1 hall t hm)⟩)
    (by kernel_rfl)
#print axioms proved
end Go.Proofs.YtfmdeahblaikoaaDoor.versionsTell


/-
  PROVED: lanelaw2.StrictTells returns true, for every list of ops and every number of a way: what any ops that deals ask for come to, by any way, and who is aborted, as the reference says. The variable errors.errorType starts as the program's text lays it (the card's tie); no condition beyond the form's own reach.
-/
import Derived.Test.YtbccnafdfeempaaGreatDoorQ41
import Derived.Test.YtbccnafdfeempaaGreatDoorQ42

namespace Go.Proofs.YtbccnafdfeempaaGreatDoor.strictTells
open Go.ChangeShapes Go.WideShapes Go.ChangeAt Go.RowKit Go.Proofs.YtbccnafdfeempaaGreatDoor

theorem runJ_vic {way : Int} : ∀ (n : Nat) (j : Job) (s s' : RSt), runJ way n j s = some s' → s'.vic.length + s.told.length ≤ s.vic.length + s'.told.length := by
  intro n
  induction n with
  | zero => intro j s s' h; cases j <;> simp [runJ] at h
  | succ n ih =>
    intro j s s' h
    cases j with
    | free tx =>
      unfold runJ at h
      split at h
      · cases h
      · have a := ih _ _ _ h; exact a
    | go l =>
      cases l with
      | nil => unfold runJ at h; injection h with h; subst h; omega
      | cons x t =>
        unfold runJ at h
        split at h
        · exact ih _ _ _ h
        · rename_i o ho
          split at h
          · cases h
          · rename_i s1 h1
            have a := ih _ _ _ h1
            have b := ih _ _ _ h
            simp only [List.length_append, List.length_singleton] at a
            omega
    | drain tx =>
      unfold runJ at h
      split at h
      · injection h with h; subst h; omega
      · split at h
        · injection h with h; subst h; omega
        · split at h
          · cases h
          · rename_i s1 h1
            have a := ih _ _ _ h1
            have b := ih _ _ _ h
            simp only at a
            omega
    | abort tx =>
      unfold runJ at h
      have a := ih _ _ _ h
      simp only [RSt.aborts, List.length_append, List.length_singleton] at a
      omega
    | avoid tx =>
      unfold runJ at h
      split at h
      · split at h
        · exact ih _ _ _ h
        · injection h with h; subst h; omega
      · split at h
        · split at h
          · injection h with h; subst h; omega
          · split at h
            · injection h with h; subst h; omega
            · exact ih _ _ _ h
        · split at h
          · injection h with h; subst h; omega
          · split at h
            · cases h
            · rename_i s1 h1
              have a := ih _ _ _ h1
              have b := ih _ _ _ h
              omega
    | doo o =>
      unfold runJ at h
      split at h
      · have a := ih _ _ _ h
        simp only [RSt.tells, List.length_append, List.length_singleton] at a
        omega
      · split at h
        · cases h
        · split at h
          · injection h with h; subst h
            simp only [RSt.tells, List.length_append, List.length_singleton]; omega
          · have a := ih _ _ _ h; exact a
theorem runL_vic (way : Int) (N : Nat) : ∀ (l : List HOp) (s s' : RSt), runL way N l s = some s' → s'.vic.length + s.told.length ≤ s.vic.length + s'.told.length
  | [], s, s', h => by unfold runL at h; injection h with h; subst h; omega
  | o :: t, s, s', h => by
    unfold runL at h
    split at h
    · exact runL_vic way N t _ _ h
    · split at h
      · have a := runL_vic way N t _ _ h; exact a
      · split at h
        · cases h
        · rename_i s1 h1
          have a := runJ_vic _ _ _ _ h1
          have b := runL_vic way N t _ _ h
          omega
theorem strict_fin (way : Int) {h : List HOp} (hk : okH h) : ∃ N s', runL way N h rst0 = some s' ∧ s'.told.length ≤ 160 ∧ s'.vic.length ≤ 160 := by
  obtain ⟨N, s', h1, h2, _⟩ := strict_ends way hk
  have h3 := h1 N (Nat.le_refl _)
  have h4 := runL_vic way N h rst0 s' h3
  simp only [rst0, List.length_nil] at h4
  exact ⟨N, s', h3, h2, by omega⟩

set_option maxRecDepth 100000 in
set_option maxHeartbeats 4000000 in
theorem walk_ok (A : Option Addr) (n c : Nat) (h : List HOp) (way : Int) (w : World) (hE : Et w) (hr : Rd w w.heap.size 3 A n (cellsH h)) (hok : okH h) (hw0 : 0 ≤ way) (hw2 : way ≤ 2) :
    Calls Tryz.prog 3 #[.slice A n c, .int .i64 way] w fun e w' => e = .returned (.bool true) ∧ Below w.heap.size w w' := by
  have hz0 := hE.pos
  have hm : n ≤ 40 := by rw [← hr.hlen]; exact okH_len hok
  obtain ⟨N, s', hrun, htl, hvl⟩ := strict_fin way hok
  have CE := hide (fun w1 (hb : Below w.heap.size w w1) => error_same 0 w1 (hE.below hb hz0))
  rw [errV_zero] at CE
  have CR := hide (rright_any A n c h w hr (by omega))
  rw [show (checkF h).2 = 0 from hok] at CR
  have CQ := hide (fun w1 (hb : Below w.heap.size w w1) => qstrict_any A n c h way w1 ((hr.below hb).more hb.size) hok N s' hrun (by omega) (by omega))
  have CS := hide (fun w1 (hb : Below w.heap.size w w1) => strict_any A n c h way w1 ((hr.below hb).more hb.size) hok hw0 hw2 N s' hrun (by omega) (by omega))
  have h0 : ¬ way < 0 := by omega
  have h2 : ¬ way > 2 := by omega
  have h2' : ¬ 2 < way := by omega
  generalize s'.told = T at *
  generalize s'.vic = V at *
  obtain ⟨nt, hnt⟩ : ∃ nt, T.length = nt := ⟨_, rfl⟩
  obtain ⟨nv, hnv⟩ : ∃ nv, V.length = nv := ⟨_, rfl⟩
  rw [hnt] at CQ CS htl
  rw [hnv] at CQ CS hvl
  clear hr hok hE hrun hnt hnv hw0 hw2
  go_enter Tryz.func3, Tryz.ntmps3
  go_wp2_with fail
  refine (unhide CR).mono ?_
  rintro e w1 ⟨rfl, hb1⟩
  have C1 := hide (unhide CQ w1 hb1)
  clear CR CQ
  go_wp2_with fail
  refine (unhide C1).mono ?_
  rintro e w2 ⟨v1, v2, rfl, ho1, ho2, hb2⟩
  obtain ⟨A1, c1, rfl⟩ := own_slice ho1
  obtain ⟨A2, c2, rfl⟩ := own_slice ho2
  have hbw2 := hb1.trans (hb2.mono hb1.size)
  have hd1 := rd_own ho1
  have hd2 := rd_own ho2
  have C2 := hide (unhide CS w2 hbw2)
  clear C1 CS ho1 ho2 hb2
  go_wp2_with fail
  refine (unhide C2).mono ?_
  rintro e w3 ⟨v3, v4, rfl, ho3, ho4, hb3⟩
  obtain ⟨A3, c3, rfl⟩ := own_slice ho3
  obtain ⟨A4, c4, rfl⟩ := own_slice ho4
  have hbw3 := hbw2.trans (hb3.mono hbw2.size)
  have hd1 := (hd1.below hb3).more hb3.size
  have hd2 := (hd2.below hb3).more hb3.size
  have hd3 := rd_own ho3
  have hd4 := rd_own ho4
  have C3 := hide (unhide CE w3 hbw3)
  clear C2 CE ho3 ho4 hb3
  go_wp2_with fail
  refine (unhide C3).mono ?_
  rintro e w4 ⟨rfl, hb4⟩
  have hbw4 := hbw3.trans (hb4.mono hbw3.size)
  have C4 := hide (ops_any A3 A1 nt nt c3 c1 T T w4 ((hd3.below hb4).more hb4.size) ((hd1.below hb4).more hb4.size) (by omega))
  have hd2 := (hd2.below hb4).more hb4.size
  have hd4 := (hd4.below hb4).more hb4.size
  rw [decide_eq_true rfl] at C4
  clear C3 hb4 hd1 hd3
  go_wp2_with fail
  refine (unhide C4).mono ?_
  rintro e w5 ⟨rfl, hb5⟩
  have hbw5 := hbw4.trans (hb5.mono hbw4.size)
  have C5 := hide (ints_any A4 A2 nv nv c4 c2 V V w5 ((hd4.below hb5).more hb5.size) ((hd2.below hb5).more hb5.size) (by omega))
  rw [decide_eq_true rfl] at C5
  clear C4 hb5 hd2 hd4
  go_wp2_with fail
  refine (unhide C5).mono ?_
  rintro e w6 ⟨rfl, hb6⟩
  have hbw6 := hbw5.trans (hb6.mono hbw5.size)
  go_wp2
  go_ret
  exact ⟨rfl, hbw6⟩

set_option maxRecDepth 100000 in
set_option maxHeartbeats 4000000 in
/-- A history that is wrong, or no way: both tell the same fault. -/
theorem walk_no (A : Option Addr) (n c : Nat) (h : List HOp) (way : Int) (w : World) (hE : Et w) (hr : Rd w w.heap.size 3 A n (cellsH h)) (hm : n ≤ 6000000000000) (hno : ¬ okH h) :
    Calls Tryz.prog 3 #[.slice A n c, .int .i64 way] w fun e w' => e = .returned (.bool true) ∧ Below w.heap.size w w' := by
  have hz0 := hE.pos
  have hne : (checkF h).2 ≠ 0 := hno
  have CR := hide (rright_any A n c h w hr hm)
  have CS := hide (fun w1 (hb : Below w.heap.size w w1) => strict_right A n c h way w1 ((hr.below hb).more hb.size) hm hne)
  generalize (checkF h).2 = ev at *
  have CE := hide (fun w1 (hb : Below w.heap.size w w1) => error_same ev w1 (hE.below hb hz0))
  have q0 : (ev == 0) = false := by simpa using hne
  clear hE hr hno hne
  go_enter Tryz.func3, Tryz.ntmps3
  go_wp2_with fail
  refine (unhide CR).mono ?_
  rintro e w1 ⟨rfl, hb1⟩
  have C2 := hide (unhide CS w1 hb1)
  clear CR CS
  go_wp2_with fail
  refine (unhide C2).mono ?_
  rintro e w3 ⟨rfl, hb3⟩
  have hbw3 := hb1.trans (hb3.mono hb1.size)
  have C3 := hide (unhide CE w3 hbw3)
  clear C2 CE hb3
  go_wp2_with fail
  refine (unhide C3).mono ?_
  rintro e w4 ⟨rfl, hb4⟩
  have hbw4 := hbw3.trans (hb4.mono hbw3.size)
  have C4 := hide (ops_any none none 0 0 0 0 [] [] w4 Rd.nil Rd.nil (by omega))
  rw [decide_eq_true rfl] at C4
  clear C3 hb4
  go_wp2_with fail
  refine (unhide C4).mono ?_
  rintro e w5 ⟨rfl, hb5⟩
  have hbw5 := hbw4.trans (hb5.mono hbw4.size)
  have C5 := hide (ints_any none none 0 0 0 0 [] [] w5 Rd.nil Rd.nil (by omega))
  rw [decide_eq_true rfl] at C5
  clear C4 hb5
  go_wp2_with fail
  refine (unhide C5).mono ?_
  rintro e w6 ⟨rfl, hb6⟩
  have hbw6 := hbw5.trans (hb6.mono hbw5.size)
  go_wp2
  go_ret
  exact ⟨rfl, hbw6⟩

set_option maxRecDepth 100000 in
set_option maxHeartbeats 4000000 in
theorem walk_way (A : Option Addr) (n c : Nat) (h : List HOp) (way : Int) (w : World) (hE : Et w) (hr : Rd w w.heap.size 3 A n (cellsH h)) (hok : okH h) (hw : way < 0 ∨ 2 < way) :
    Calls Tryz.prog 3 #[.slice A n c, .int .i64 way] w fun e w' => e = .returned (.bool true) ∧ Below w.heap.size w w' := by
  have hz0 := hE.pos
  have hm : n ≤ 40 := by rw [← hr.hlen]; exact okH_len hok
  have CR := hide (rright_any A n c h w hr (by omega))
  rw [show (checkF h).2 = 0 from hok] at CR
  have CS := hide (fun w1 (hb : Below w.heap.size w w1) => strict_way A n c h way w1 ((hr.below hb).more hb.size) hok hw)
  have CE := hide (fun w1 (hb : Below w.heap.size w w1) => error_same 1 w1 (hE.below hb hz0))
  clear hE hr hok
  have hw' : way < 0 ∨ (¬ way < 0 ∧ way > 2) := by omega
  rcases hw' with h0 | ⟨h0, h2⟩
  all_goals
    clear hw
    go_enter Tryz.func3, Tryz.ntmps3
    go_wp2_with fail
    refine (unhide CR).mono ?_
    rintro e w1 ⟨rfl, hb1⟩
    have C2 := hide (unhide CS w1 hb1)
    clear CR CS
    go_wp2_with fail
    refine (unhide C2).mono ?_
    rintro e w3 ⟨rfl, hb3⟩
    have hbw3 := hb1.trans (hb3.mono hb1.size)
    have C3 := hide (unhide CE w3 hbw3)
    clear C2 CE hb3
    go_wp2_with fail
    refine (unhide C3).mono ?_
    rintro e w4 ⟨rfl, hb4⟩
    have hbw4 := hbw3.trans (hb4.mono hbw3.size)
    have C4 := hide (ops_any none none 0 0 0 0 [] [] w4 Rd.nil Rd.nil (by omega))
    rw [decide_eq_true rfl] at C4
    clear C3 hb4
    go_wp2_with fail
    refine (unhide C4).mono ?_
    rintro e w5 ⟨rfl, hb5⟩
    have hbw5 := hbw4.trans (hb5.mono hbw4.size)
    have C5 := hide (ints_any none none 0 0 0 0 [] [] w5 Rd.nil Rd.nil (by omega))
    rw [decide_eq_true rfl] at C5
    clear C4 hb5
    go_wp2_with fail
    refine (unhide C5).mono ?_
    rintro e w6 ⟨rfl, hb6⟩
    have hbw6 := hbw5.trans (hb6.mono hbw5.size)
    go_wp2
    go_ret
    exact ⟨rfl, hbw6⟩
theorem walk (A : Option Addr) (n c : Nat) (h : List HOp) (way : Int) (w : World) (hE : Et w) (hr : Rd w w.heap.size 3 A n (cellsH h)) (hn : n * 24 ≤ 140737488351232) :
    Calls Tryz.prog 3 #[.slice A n c, .int .i64 way] w fun e w' => e = .returned (.bool true) ∧ Below w.heap.size w w' := by
  by_cases hok : okH h
  · by_cases hw : way < 0 ∨ 2 < way
    · exact walk_way A n c h way w hE hr hok hw
    · exact walk_ok A n c h way w hE hr hok (by omega) (by omega)
  · exact walk_no A n c h way w hE hr (by omega) hok
theorem bytes_ops : Tryz.prog.bytesOf 43 = 24 := by kernel_rfl

/-! ### The row. -/
set_option maxRecDepth 100000 in
theorem lifted (os : Os) (started : os.Started) (H : Type) (enc : TypeId × Value → H) :
    ReturnsInHanded {} Tryz.checked os 3 .any (fun w args => (Rows.strictTellsSpec.pre enc Tryz.prog Tryz.f3 [] false w args ∧ laidMetH Tryz.prog dLaid w) ∧ sizedMet enc Tryz.prog Tryz.f3 (OpenSpec.ofChange Rows.strictTellsSpec) false w args) (Rows.strictTellsSpec.post enc Tryz.prog Tryz.f3 false true false false) := by
  refine returnsInHanded_of_change_and (C := Tryz.checked) (X := fun w _ => laidMetH Tryz.prog dLaid w) (fun _ _ _ hh h => h.of_heap hh) dOwn started (by kernel_rfl) Tryz.func3
    (ChangeSpec.witness_at (enc := enc) (C := Tryz.checked) (os := os) (X := fun w _ => laidMetH Tryz.prog dLaid w) false (laidWorld os) #[.slice none 0 0, .int .i64 0] 8 rfl (by kernel_rfl) (by kernel_rfl) (by kernel_rfl) (by kernel_rfl) (by kernel_rfl) (laidWorld_met os _)) ?_
  intro W base args ds gs before hval0 hW hcnd hsz0 hL _
  have hval : ∀ (j : Nat) t v, Tryz.f3.params[j]? = some t → args[j]? = some v → Value.okWide Tryz.prog W .any base t v := hval0
  have hW' := hW
  obtain ⟨p, q, hA0, hV, rfl, hfz, hnd⟩ := hW
  have hA : DataW.TrodAll enc Tryz.prog W 0 (fun _ => true) true Tryz.f3.params.toList args.toList ds p := hA0
  have hsz : (DataW.weightsEach Tryz.prog (Tryz.f3.params.toList ++ Rows.strictTellsSpec.plain.varTypes Tryz.prog) (ds ++ gs)).all (· ≤ reachBytes) = true := hsz0
  rw [Tryz.params3] at hA hval hsz
  obtain ⟨v0, vs0, d0, ds0, p0, q0, hargs, rfl, rfl, h0, r0⟩ := trodAll_cons hA
  obtain ⟨v1, vs1, d1, ds1, p1, q1, rfl, rfl, rfl, h1, r1⟩ := trodAll_cons r0
  obtain ⟨rfl, rfl, rfl⟩ := trodAll_nil r1
  obtain rfl : args = #[v0, v1] := by cases args; simp_all
  obtain ⟨rfl, rfl⟩ := trodVars_none hV
  simp only [List.append_nil] at hW'
  have hk0 := h0
  have hlt0 : ∀ x ∈ p0, x.block < W.heap.size := fun x hx => hW'.lt x (by simp [hx])
  obtain ⟨A0, n0, c0, l0, rfl, rd0, bd0⟩ := open_ops Tryz.underlying22 Tryz.underlying43 Tryz.underlying3 rfl rfl rfl (by kernel_rfl) (by kernel_rfl) (hval 0 22 v0 rfl rfl) h0 (fun e s he => by have := sized_slice hsz (j := 0) (t := 22) (e := 43) rfl (congrArg some he) Tryz.underlying22; rwa [bytes_ops] at this)
  obtain ⟨a1, rfl, rfl, rfl, w1⟩ := open_int Tryz.underlying3 (hval 1 3 v1 rfl rfl) h1
  clear hA0 hval0
  refine (walk A0 n0 c0 l0 a1 W (et_of_laid hL) rd0 bd0).mono fun e W' ⟨he, hg⟩ => ?_
  subst he
  exact ⟨_, rfl, post_slices (pa := _) (pv := []) hW' hg (by simp) (fun _ _ _ => (trodAll_cons_mk (shut_bool Tryz.underlying4 _) trodAll_mk0)) (trodAll_cons_mk (Below.trod laidOut (by kernel_rfl) (of_decide_eq_true (by kernel_rfl)) hk0 hg hlt0) (trodAll_cons_mk (shut_int Tryz.underlying3 w1) trodAll_mk0)) rfl⟩

theorem over : Rows.StrictTellsSaid :=
  OpenClaim.holds_of_wide 3 Tryz.f3 rfl rfl rfl rfl rfl rfl rfl ⟨rfl, rfl, rfl, rfl, rfl⟩ rfl rfl rfl rfl rfl (by kernel_rfl) Tryz.func3 (by kernel_rfl)
    (of_decide_eq_true (by kernel_rfl)) (by unfold Func.isWrapper; first | (rw [if_pos (by decide +kernel)]; kernel_rfl) | (rw [if_neg (by decide +kernel)]; exact ⟨rfl, rfl⟩))
    (fun os started H enc _ => lifted os started H enc)

/-- The statement: the tied card. -/
theorem proved : Rows.StrictTellsCardSaid :=
  Claim7.holds_tied_plain_at .later [] [.handle] true _ true
    over (fun _ h => by cases h) (by kernel_rfl) (fun _ h => by cases h) strictTells_row_tie rfl ⟨rfl, rfl⟩ (by kernel_rfl) rfl
    (fun f fn hf hfn => by
      obtain rfl : f = 3 := Option.some.inj ((show Tryz.prog.funcNamed "locklane/lanelaw2.StrictTells" = some 3 by kernel_rfl).symm.trans hf) |>.symm
      obtain rfl : fn = Tryz.f3 := (Option.some.inj (Tryz.func3.symm.trans hfn)).symm
      exact ⟨by kernel_rfl, fun j t ht => by
        rw [Tryz.params3] at ht
        have hm : t ∈ [22, 3] := by have := Array.mem_of_getElem? ht; simpa using this
        have hall : ([22, 3].all fun u => !Tryz.prog.wantsStandIn u) = true := by kernel_rfl
        exact (show Tryz.prog.wantsStandIn t = false by simpa using List.all_eq_true.1 hall t hm)⟩)
    (by kernel_rfl)
#print axioms proved
end Go.Proofs.YtbccnafdfeempaaGreatDoor.strictTells


/-
  PROVED: lanelaw1.FacesTell returns true, for every list of ops: what may be undone of any history, and from whom each of its reads reads, as the reference says. The variable errors.errorType starts as the program's text lays it (the card's tie); no condition beyond the form's own reach.
-/
import Derived.Test.YtoboecppilmnnaaDoorRFacesAll
import Derived.Test.YtoboecppilmnnaaDoorFacesFrom
import Derived.Test.YtoboecppilmnnaaDoorFacesNo
import Derived.Test.YtoboecppilmnnaaDoorSrc
import Derived.Test.YtoboecppilmnnaaDoorDoor
namespace Go.Proofs.YtoboecppilmnnaaDoor.facesTell
open Go.ChangeShapes Go.WideShapes Go.ChangeAt Go.RowKit Go.Proofs.YtoboecppilmnnaaDoor

theorem srcL_len (h : List HOp) (k : Nat) : (srcL h k).length ≤ k := by
  induction k with
  | zero => simp [srcL]
  | succ k ih =>
    rw [srcL, List.length_append]
    cases h[k]? with
    | none => simp; omega
    | some o =>
      simp only
      split
      · simp; omega
      · simp; omega

set_option maxRecDepth 100000 in
set_option maxHeartbeats 4000000 in
theorem walk_ok (A : Option Addr) (n c : Nat) (h : List HOp) (w : World) (hE : Et w) (hr : Rd w w.heap.size 3 A n (cellsH h)) (hcap : n ≤ c) (hok : okH h) :
    Calls Tryd.prog 9 #[.slice A n c] w fun e w' => e = .returned (.bool true) ∧ Below w.heap.size w w' := by
  have hl := hr.hlen
  have hm : n ≤ 40 := by rw [← hl]; exact okH_len hok
  have hz0 := hE.pos
  have HE := hide hE
  have HOK := Lib.hid hok
  have H0 : Hid ((checkF h).2 = 0) := Lib.hid hok
  have HSL : Hid (∀ k, (srcL h k).length ≤ k) := Lib.hid (srcL_len h)
  obtain ⟨⟨R, cc, s, r⟩, hf⟩ : ∃ f, facesF h = f := ⟨_, rfl⟩
  have HF := Lib.hid hf
  clear hE hok hl hf
  go_enter Tryd.func9, Tryd.ntmps9
  go_wp2_with fail
  refine (rright_any A n c h w hr (by omega)).mono ?_
  rw [H0.out]
  rintro e w1 ⟨rfl, hb1⟩
  have hr1 := (hr.below hb1).more hb1.size
  have hW1 := Blk.new w1 73 [.bool false, .bool false, .bool false, .bool false]
  have hba : Below w.heap.size w (w1.alloc (.cells #[.bool false, .bool false, .bool false, .bool false] 73)) := hb1.alloc hb1.size _
  have CR := hide (rfaces_any A n c h (w1.alloc (.cells #[.bool false, .bool false, .bool false, .bool false] 73)) ((hr1.alloc (Nat.le_refl _) _).more (by simp)) HOK.out)
  rw [HF.out] at CR
  have hz1 := hb1.size
  go_wp2_with fail
  refine (unhide CR).mono ?_
  rintro e w2 ⟨rfl, hb2⟩
  have hW2 := hW1.below hb2 (by simp)
  have hbw2 := hba.trans (hb2.mono hba.size)
  have hW3 := (((hW2.put 0 (.bool R)).put 1 (.bool cc)).put 2 (.bool s)).put 3 (.bool r)
  have hbw3 := (((hbw2.setCell (p := ⟨w1.heap.size, 0, none⟩) hz1 (.bool R)).setCell (p := ⟨w1.heap.size, 1, none⟩) hz1 (.bool cc)).setCell (p := ⟨w1.heap.size, 2, none⟩) hz1 (.bool s)).setCell (p := ⟨w1.heap.size, 3, none⟩) hz1 (.bool r)
  obtain ⟨y0, y1, y2, y3, z0, z1, z2, z3⟩ := fcells hW2
  have hvv : (⟨R, cc, s, r⟩ : FacesV).val = .agg #[.bool R, .bool cc, .bool s, .bool r] := rfl
  rw [hvv]
  clear hvv CR hba hW1 hr1 hb2
  go_wp2
  clear y0 y1 y2 y3 z0 z1 z2 z3 hW2 hbw2
  have hlt3 := hW3.lt
  go_loopw [5, 6] (fun s5 s6 wr => ∃ k m : Nat, k ≤ n ∧ s6 = .int .i64 k ∧ wr.ownsRow (w1.heap.size + 1) 78 2 s5 m (dcells (srcL h k)) ∧ m ≤ k ∧ Blk wr w1.heap.size 73 [.bool R, .bool cc, .bool s, .bool r] ∧ Below w.heap.size w wr) (fun _ s6 _ => n - (intOf s6).toNat)
  case atStart => exact ⟨0, 0, Nat.zero_le _, rfl, World.ownsRow_nil _ _ _ _, Nat.zero_le _, hW3, hbw3⟩
  case round =>
    clear hW3 hbw3 hlt3
    obtain ⟨k, m, hk, rfl, ho5, hmk, hW, hbw⟩ := hrel
    obtain ⟨A5, c5, rfl⟩ := own_slice ho5
    have hWl := hW.lt
    by_cases hlt : k < n
    · obtain ⟨b, off, o, he, hb, ho, c0, c1, c2⟩ := (hr.below hbw).op (k := k) (by omega)
      have HS := Lib.hid (srcL_succ ho)
      have CF := hide (rfrom_any A n c h k o wr ((hr.below hbw).more hbw.size) ho HOK.out)
      cases he
      clear ho
      obtain ⟨p1, p2, p3⟩ := o
      by_cases hw : p2 = 1
      · subst hw
        generalize fromB (h.take k) ⟨p1, 1, p3⟩ = fv at *
        have HS2 : Hid (srcL h (k + 1) = srcL h k ++ [((k : Int), fv)]) := Lib.hid (by rw [HS.out]; simp)
        clear HS
        go_wp2_with fail
        refine (unhide CF).mono ?_
        rintro e w4 ⟨rfl, hb4⟩
        have hbw4 := hbw.trans (hb4.mono hbw.size)
        have ho54 := own_below ho5 hb4 (Nat.le_refl _)
        have hW4 := hW.below hb4 hWl
        have hz4 : w1.heap.size + 1 ≤ w4.heap.size := hW4.lt
        clear hb4 ho5 hW hbw CF
        go_wp2_with (at_builtin; (refine wpList_app rfl (.tmp 38) (.tmp 42) _ rfl (w1.heap.size + 1) slt_src (n := m) (xs := dcells (srcL h k)) (m := 1) (news := dcells [((k : Int), fv)]) rfl (own_alloc ho54 _) rfl (rd_new' _ _ (dcells [((k : Int), fv)]) (by simp) rfl) (oneD _) (by omega) (by simp; omega) ?_; intro v5 w5 hown5 hg5 hb5 hat5 hne5))
        rw [← dcells_append, ← HS2.out] at hown5
        have hbw5 := (hbw4.alloc hbw4.size (.cells (dcells [((k : Int), fv)]).toArray 78)).trans (hb5.mono (by omega))
        have hW5 := (hW4.alloc (.cells (dcells [((k : Int), fv)]).toArray 78)).below hb5 (Nat.lt_succ_self _)
        go_roundw
        case rel => exact ⟨k + 1, m + 1, by omega, by go_num, hown5, by omega, hW5, hbw5⟩
        case measure => simp [intOf]; omega
      · have HS2 : Hid (srcL h (k + 1) = srcL h k) := Lib.hid (by rw [HS.out]; simp [hw])
        have hw2 : (p2 == 1) = false := by simpa using hw
        clear CF HS
        go_wp2
        go_roundw
        case rel => exact ⟨k + 1, m, by omega, by go_num, by rw [HS2.out]; exact ho5, by omega, hW, hbw⟩
        case measure => simp [intOf]; omega
    · obtain rfl : k = n := by omega
      have hr5 := (hr.below hbw).more hbw.size
      have CO := hide (facesOf_ok A k c h wr hr5 hcap HOK.out)
      rw [HF.out] at CO
      have hvv : (⟨R, cc, s, r⟩ : FacesV).val = .agg #[.bool R, .bool cc, .bool s, .bool r] := rfl
      rw [hvv] at CO
      have hd5 := rd_own ho5
      clear hvv ho5 hr5
      go_wp2_with fail
      refine (unhide CO).mono ?_
      rintro e w6 ⟨rfl, hb6⟩
      have hbw6 := hbw.trans (hb6.mono hbw.size)
      have hW6 := hW.below hb6 hWl
      have hd6 := (hd5.below hb6).more hb6.size
      have hG6 := Blk.new w6 73 [.bool R, .bool cc, .bool s, .bool r]
      have hW7 := hW6.alloc (.cells #[.bool R, .bool cc, .bool s, .bool r] 73)
      have hd7 := (hd6.alloc (Nat.le_refl _) (.cells #[.bool R, .bool cc, .bool s, .bool r] 73))
      have hbw7 := hbw6.alloc hbw6.size (.cells #[.bool R, .bool cc, .bool s, .bool r] 73)
      have ER := error_any 0 0 (w6.alloc (.cells #[.bool R, .bool cc, .bool s, .bool r] 73)) ((unhide HE).below hbw7 hz0)
      rw [errV_zero, decide_eq_true rfl] at ER
      have HER := hide ER
      clear ER hb6 hW hd5 hbw CO hd6 hW6
      go_wp2_with fail
      refine (unhide HER).mono ?_
      rintro e w8 ⟨rfl, hb8⟩
      have hz7 : w6.heap.size < (w6.alloc (.cells #[.bool R, .bool cc, .bool s, .bool r] 73)).heap.size := hG6.lt
      have hbw8 := hbw7.trans (hb8.mono hbw7.size)
      have hG8 := hG6.below hb8 hG6.lt
      have hW8 := hW7.below hb8 hW7.lt
      have hd8 := (hd7.more (Nat.le_of_lt hz7)).below hb8 |>.more hb8.size
      have hr8 := (hr.below hbw8).more hbw8.size
      obtain ⟨x0, x1, x2, x3, _⟩ := fcells hG8
      obtain ⟨y0, y1, y2, y3, _⟩ := fcells hW8
      have CF := hide (facesFrom_ok A k c h w8 hr8 hcap HOK.out)
      clear hb8 hG6 hW7 hd7 hbw7 HER hz7 hbw6 hr8
      go_wp2_with fail
      refine (unhide CF).mono ?_
      rintro e w9 ⟨v9, m9, rfl, ho9, hb9⟩
      obtain ⟨A9, c9, rfl⟩ := own_slice ho9
      have hbw9 := hbw8.trans (hb9.mono hbw8.size)
      have hd9 := (hd8.below hb9).more hb9.size
      have hs9 := rd_own ho9
      have hm9 : m9 ≤ 40 := by have := HSL.out k; rw [← hs9.dlen]; omega
      have ER := error_any 0 0 w9 ((unhide HE).below hbw9 hz0)
      rw [errV_zero, decide_eq_true rfl] at ER
      have HER := hide ER
      clear ER hb9 hd8 ho9 hbw8 CF hG8 hW8 x0 x1 x2 x3 y0 y1 y2 y3
      go_wp2_with fail
      refine (unhide HER).mono ?_
      rintro e w10 ⟨rfl, hb10⟩
      have hbw10 := hbw9.trans (hb10.mono hbw9.size)
      have hd10 := (hd9.below hb10).more hb10.size
      have hs10 := (hs9.below hb10).more hb10.size
      clear hb10 HER hd9 hs9
      go_wp2_with fail
      refine (sources_any A9 A5 m9 m c9 c5 _ _ w10 hs10 hd10 (by omega)).mono ?_
      rw [decide_eq_true rfl]
      rintro e w11 ⟨rfl, hb11⟩
      have hbw11 := hbw10.trans (hb11.mono hbw10.size)
      go_wp2
      go_ret
      exact ⟨rfl, hbw11⟩

set_option maxRecDepth 100000 in
set_option maxHeartbeats 4000000 in
theorem walk_no (A : Option Addr) (n c : Nat) (h : List HOp) (w : World) (hE : Et w) (hr : Rd w w.heap.size 3 A n (cellsH h)) (hm : n ≤ 6000000000000) (hok : ¬ okH h) :
    Calls Tryd.prog 9 #[.slice A n c] w fun e w' => e = .returned (.bool true) ∧ Below w.heap.size w w' := by
  have hz0 := hE.pos
  have HE := hide hE
  have CO := hide (fun w2 (hr2 : Rd w2 w2.heap.size 3 A n (cellsH h)) => facesOf_no A n c h w2 hr2 hm hok)
  have CF := hide (fun w2 (hr2 : Rd w2 w2.heap.size 3 A n (cellsH h)) => facesFrom_no A n c h w2 hr2 hm hok)
  have CR := hide (rright_any A n c h w hr hm)
  have hne : (checkF h).2 ≠ 0 := hok
  generalize (checkF h).2 = ev at *
  have hne2 : (ev == 0) = false := by simpa using hne
  clear hok hne hE
  go_enter Tryd.func9, Tryd.ntmps9
  go_wp2_with fail
  refine (unhide CR).mono ?_
  rintro e w1 ⟨rfl, hb1⟩
  have hW1 := Blk.new w1 73 [.bool false, .bool false, .bool false, .bool false]
  have hb1a : Below w.heap.size w (w1.alloc (.cells #[.bool false, .bool false, .bool false, .bool false] 73)) := hb1.alloc hb1.size _
  clear hb1 CR
  go_wp2
  go_loop [5, 6] (fun s5 s6 => s5 = .slice none 0 0 ∧ s6 = .int .i64 0) (fun _ _ => 0)
  case atStart => exact ⟨rfl, rfl⟩
  case round =>
    obtain ⟨rfl, rfl⟩ := hrel
    have hra := (hr.below hb1a).more hb1a.size
    rcases Nat.eq_zero_or_pos n with hn0 | hn0
    all_goals
      try subst hn0
      go_wp2_with fail
      refine (unhide CO _ hra).mono ?_
      rintro e w2 ⟨rfl, hb2⟩
      have hbw2 := hb1a.trans (hb2.mono hb1a.size)
      have hW2 := hW1.below hb2 hW1.lt
      have hG2 := Blk.new w2 73 [.bool false, .bool false, .bool false, .bool false]
      have hW3 := hW2.alloc (.cells #[.bool false, .bool false, .bool false, .bool false] 73)
      have hbw3 := hbw2.alloc hbw2.size (.cells #[.bool false, .bool false, .bool false, .bool false] 73)
      have ER := error_any ev ev (w2.alloc (.cells #[.bool false, .bool false, .bool false, .bool false] 73)) ((unhide HE).below hbw3 hz0)
      rw [decide_eq_true rfl] at ER
      have HER := hide ER
      clear ER hb2 hW2 hra hb1a hW1
      go_wp2_with fail
      refine (unhide HER).mono ?_
      rintro e w4 ⟨rfl, hb4⟩
      have hbw4 := hbw3.trans (hb4.mono hbw3.size)
      have hG4 := hG2.below hb4 hG2.lt
      have hW4 := hW3.below hb4 hW3.lt
      have hr4 := (hr.below hbw4).more hbw4.size
      obtain ⟨x0, x1, x2, x3, _⟩ := fcells hG4
      obtain ⟨y0, y1, y2, y3, _⟩ := fcells hW4
      clear hb4 hG2 hW3 hbw3 HER hbw2
      go_wp2_with fail
      refine (unhide CF w4 hr4).mono ?_
      rintro e w5 ⟨rfl, hb5⟩
      have hbw5 := hbw4.trans (hb5.mono hbw4.size)
      have ER := error_any ev ev w5 ((unhide HE).below hbw5 hz0)
      rw [decide_eq_true rfl] at ER
      have HER := hide ER
      clear ER hb5 hr4 hG4 hW4 x0 x1 x2 x3 y0 y1 y2 y3
      go_wp2_with fail
      refine (unhide HER).mono ?_
      rintro e w6 ⟨rfl, hb6⟩
      have hbw6 := hbw5.trans (hb6.mono hbw5.size)
      clear HER hb6
      go_wp2_with fail
      refine (sources_any none none 0 0 0 0 [] [] w6 Rd.nil Rd.nil (by omega)).mono ?_
      rw [decide_eq_true rfl]
      rintro e w7 ⟨rfl, hb7⟩
      have hbw7 := hbw6.trans (hb7.mono hbw6.size)
      go_wp2
      go_ret
      exact ⟨rfl, hbw7⟩

theorem walk (A : Option Addr) (n c : Nat) (h : List HOp) (w : World) (hE : Et w) (hr : Rd w w.heap.size 3 A n (cellsH h)) (hn : n * 24 ≤ 140737488351232) (hcap : n ≤ c) :
    Calls Tryd.prog 9 #[.slice A n c] w fun e w' => e = .returned (.bool true) ∧ Below w.heap.size w w' := by
  by_cases hok : okH h
  · exact walk_ok A n c h w hE hr hcap hok
  · exact walk_no A n c h w hE hr (by omega) hok
theorem bytes_opsc : Tryd.prog.bytesOf 24 = 24 := by kernel_rfl

/-! ### The row. -/
set_option maxRecDepth 100000 in
theorem lifted (os : Os) (started : os.Started) (H : Type) (enc : TypeId × Value → H) :
    ReturnsInHanded {} Tryd.checked os 9 .any (fun w args => (Rows.facesTellSpec.pre enc Tryd.prog Tryd.f9 [] false w args ∧ laidMetH Tryd.prog dLaid w) ∧ sizedMet enc Tryd.prog Tryd.f9 (OpenSpec.ofChange Rows.facesTellSpec) false w args) (Rows.facesTellSpec.post enc Tryd.prog Tryd.f9 false true false false) := by
  refine returnsInHanded_of_change_and (C := Tryd.checked) (X := fun w _ => laidMetH Tryd.prog dLaid w) (fun _ _ _ hh h => h.of_heap hh) dOwn started (by kernel_rfl) Tryd.func9
    (ChangeSpec.witness_at (enc := enc) (C := Tryd.checked) (os := os) (X := fun w _ => laidMetH Tryd.prog dLaid w) false (laidWorld os) #[.slice none 0 0] 8 rfl (by kernel_rfl) (by kernel_rfl) (by kernel_rfl) (by kernel_rfl) (by kernel_rfl) (laidWorld_met os _)) ?_
  intro W base args ds gs before hval0 hW hcnd hsz0 hL _
  have hval : ∀ (j : Nat) t v, Tryd.f9.params[j]? = some t → args[j]? = some v → Value.okWide Tryd.prog W .any base t v := hval0
  have hW' := hW
  obtain ⟨p, q, hA0, hV, rfl, hfz, hnd⟩ := hW
  have hA : DataW.TrodAll enc Tryd.prog W 0 (fun _ => true) true Tryd.f9.params.toList args.toList ds p := hA0
  have hsz : (DataW.weightsEach Tryd.prog (Tryd.f9.params.toList ++ Rows.facesTellSpec.plain.varTypes Tryd.prog) (ds ++ gs)).all (· ≤ reachBytes) = true := hsz0
  rw [Tryd.params9] at hA hval hsz
  obtain ⟨v0, vs0, d0, ds0, p0, q0, hargs, rfl, rfl, h0, r0⟩ := trodAll_cons hA
  obtain ⟨rfl, rfl, rfl⟩ := trodAll_nil r0
  obtain rfl : args = #[v0] := by cases args; simp_all
  obtain ⟨rfl, rfl⟩ := trodVars_none hV
  simp only [List.append_nil] at hW'
  have hk0 := h0
  have hlt0 : ∀ x ∈ p0, x.block < W.heap.size := fun x hx => hW'.lt x (by simp [hx])
  obtain ⟨A0, n0, c0, l0, rfl, rd0, bd0, cp0⟩ := open_opsc Tryd.underlying22 Tryd.underlying24 Tryd.underlying3 rfl rfl rfl (by kernel_rfl) (by kernel_rfl) (hval 0 22 v0 rfl rfl) h0 (fun e s he => by have := sized_slice hsz (j := 0) (t := 22) (e := 24) rfl (congrArg some he) Tryd.underlying22; rwa [bytes_opsc] at this)
  clear hA0 hval0
  refine (walk A0 n0 c0 l0 W (et_of_laid hL) rd0 bd0 cp0).mono fun e W' ⟨he, hg⟩ => ?_
  subst he
  exact ⟨_, rfl, post_slices (pa := _) (pv := []) hW' hg (by simp) (fun _ _ _ => (trodAll_cons_mk (shut_bool Tryd.underlying4 _) trodAll_mk0)) (trodAll_cons_mk (Below.trod laidOut (by kernel_rfl) (of_decide_eq_true (by kernel_rfl)) hk0 hg hlt0) trodAll_mk0) rfl⟩

theorem over : Rows.FacesTellSaid :=
  OpenClaim.holds_of_wide 9 Tryd.f9 rfl rfl rfl rfl rfl rfl rfl ⟨rfl, rfl, rfl, rfl, rfl⟩ rfl rfl rfl rfl rfl (by kernel_rfl) Tryd.func9 (by kernel_rfl)
    (of_decide_eq_true (by kernel_rfl)) (by unfold Func.isWrapper; first | (rw [if_pos (by decide +kernel)]; kernel_rfl) | (rw [if_neg (by decide +kernel)]; exact ⟨rfl, rfl⟩))
    (fun os started H enc _ => lifted os started H enc)

/-- The statement: the tied card. -/
theorem proved : Rows.FacesTellCardSaid :=
  Claim7.holds_tied_plain_at .later [] [.handle] true _ true
    over (fun _ h => by cases h) (by kernel_rfl) (fun _ h => by cases h) facesTell_row_tie rfl ⟨rfl, rfl⟩ (by kernel_rfl) rfl
    (fun f fn hf hfn => by
      obtain rfl : f = 9 := Option.some.inj ((show Tryd.prog.funcNamed "locklane/lanelaw1.FacesTell" = some 9 by kernel_rfl).symm.trans hf) |>.symm
      obtain rfl : fn = Tryd.f9 := (Option.some.inj (Tryd.func9.symm.trans hfn)).symm
      exact ⟨by kernel_rfl, fun j t ht => by
        rw [Tryd.params9] at ht
        have hm : t ∈ [22] := by have := Array.mem_of_getElem? ht; simpa using this
        have hall : ([22].all fun u => !Tryd.prog.wantsStandIn u) = true := by kernel_rfl
        exact (show Tryd.prog.wantsStandIn t = false by simpa using List.all_eq_true.1 hall t hm)⟩)
    (by kernel_rfl)
#print axioms proved
end Go.Proofs.YtoboecppilmnnaaDoor.facesTell

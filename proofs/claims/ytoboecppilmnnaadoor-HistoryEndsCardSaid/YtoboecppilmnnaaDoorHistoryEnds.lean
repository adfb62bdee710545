
/-
  PROVED: lanelaw4.HistoryEnds returns true, for every list of ops and every op: behind a deal's end any op of it is told, at its place. The variable errors.errorType starts as the program's text lays it (the card's tie); no condition beyond the form's own reach.
-/
import Derived.Test.YtoboecppilmnnaaDoorRefP
import Derived.Test.YtoboecppilmnnaaDoorDoor
namespace Go.Proofs.YtoboecppilmnnaaDoor.historyEnds
open Go.ChangeShapes Go.WideShapes Go.ChangeAt Go.RowKit Go.Proofs.YtoboecppilmnnaaDoor

theorem fact : checkF [⟨1, 4, 0⟩, ⟨1, 1, 1⟩] = (1, 6) := by decide
theorem check_is {h : List HOp} {i : Nat} {x : Int} (hc : checkF h = (i, x)) (A : Option Addr) (n cap : Nat) (w : World) (hr : Rd w w.heap.size 3 A n (cellsH h)) (hm : n ≤ 6000000000000) :
    Calls Tryd.prog 12 #[.slice A n cap] w fun e w' => e = .returned (.tuple #[.int .i64 i, errV x]) ∧ Below w.heap.size w w' := by
  have := check_any A n cap h w hr hm
  rw [hc] at this
  exact this
/-- What the three looks tell, by cases: the errors' values V1, V2, V3. -/
def Case (h : List HOp) (o : HOp) (V1 V2 V3 : Value) (i3 : Nat) : Prop :=
  (∃ x y, x ≠ 0 ∧ V1 = .iface 86 (.int .i64 x) ∧ y ≠ 0 ∧ V3 = .iface 86 (.int .i64 y)) ∨
  (∃ x y, V1 = .nilIface ∧ x ≠ 0 ∧ V2 = .iface 86 (.int .i64 x) ∧ y ≠ 0 ∧ V3 = .iface 86 (.int .i64 y)) ∨
  (V1 = .nilIface ∧ V2 = .nilIface ∧ endGo o.tx h ≠ 0 ∧ V3 = errV 6 ∧ i3 = h.length) ∨ (V1 = .nilIface ∧ V2 = .nilIface ∧ endGo o.tx h = 0 ∧ V3 = .nilIface)
theorem cases (h : List HOp) (o : HOp) (h39 : h.length ≤ 39) : ∃ i1 i2 i3 e1 e2 e3, checkF h = (i1, e1) ∧ checkF [o] = (i2, e2) ∧ checkF (h ++ [o]) = (i3, e3) ∧ Case h o (errV e1) (errV e2) (errV e3) i3 := by
  refine ⟨(checkF h).1, (checkF [o]).1, (checkF (h ++ [o])).1, (checkF h).2, (checkF [o]).2, (checkF (h ++ [o])).2, rfl, rfl, rfl, ?_⟩
  by_cases hk : okH h
  · have e1 : errV (checkF h).2 = .nilIface := by rw [show (checkF h).2 = 0 from hk]; rfl
    rw [checkF_one, checkF_snoc hk h39]
    by_cases hR : rightB o = false
    · rw [if_pos hR, if_pos hR]
      exact .inr (.inl ⟨1, 1, e1, by omega, rfl, by omega, rfl⟩)
    · rw [if_neg hR, if_neg hR]
      by_cases hE : endIn o.tx h = true
      · rw [if_pos hE]
        exact .inr (.inr (.inl ⟨e1, rfl, endGo_in.2 hE, rfl, rfl⟩))
      · rw [if_neg hE]
        exact .inr (.inr (.inr ⟨e1, rfl, endGo_zero.2 (by simpa using hE), rfl⟩))
  · have h2 := checkF_no hk h39 [o]
    exact .inl ⟨_, _, hk, ne_errV hk, h2, ne_errV h2⟩

set_option maxRecDepth 100000 in
set_option maxHeartbeats 4000000 in
theorem walk (A : Option Addr) (n c : Nat) (h : List HOp) (o : HOp) (w : World) (hE : Et w) (hr : Rd w w.heap.size 3 A n (cellsH h)) (hn : n * 24 ≤ 140737488351232) :
    Calls Tryd.prog 3 #[.slice A n c, o.val] w fun e w' => e = .returned (.bool true) ∧ Below w.heap.size w w' := by
  have hm : n ≤ 6000000000000 := by omega
  have hz0 := hE.pos
  have HE := hide hE
  have hl := hr.hlen
  have HL := Lib.hid hl
  have HCA := fun h39 => cases h o h39
  have HCA2 := hide HCA
  obtain ⟨tx, what, item⟩ := o
  unfold HOp.val
  clear hn hE hl HCA
  go_enter Tryd.func3, Tryd.ntmps3
  go_wp2_with fail
  have hB0 := Blk.new w 24 [.int .i64 tx, .int .i64 what, .int .i64 item]
  have hbw0 : Below w.heap.size w (w.alloc (.cells #[.int .i64 tx, .int .i64 what, .int .i64 item] 24)) := (Below.refl _ _).alloc (Nat.le_refl _) _
  have hr0 := rd_new (w.alloc (.cells #[.int .i64 tx, .int .i64 what, .int .i64 item] 24)) 24 (size := 3) (n := 2) [.int .i64 1, .int .i64 4, .int .i64 0, .int .i64 1, .int .i64 1, .int .i64 1] rfl
  simp only [World.size_alloc] at hr0
  refine Calls.mono (check_is fact (some ⟨w.heap.size + 1, 0, none⟩) 2 2 _ ?_ (by omega)) ?_
  · exact hr0.more (by simp)
  clear hr0
  rintro e w1 ⟨rfl, hb1⟩
  have hbw1 : Below w.heap.size w w1 := (hbw0.alloc (by simp) _).trans (hb1.mono (by simp; omega))
  have hB1 := (hB0.alloc _).below hb1 (by simp; omega)
  have hE1 := (unhide HE).below hbw1 hz0
  clear hb1 hbw0 hB0
  go_wp2_with fail
  refine (error_any 6 6 w1 hE1).mono ?_
  rw [decide_eq_true rfl]
  rintro e w2 ⟨rfl, hb2⟩
  have hbw2 := hbw1.trans (hb2.mono hbw1.size)
  have hB2 := hB1.below hb2 hB1.lt
  have hr2 := (hr.below hbw2).more hbw2.size
  clear hb2 hB1 hbw1 hE1
  by_cases h39 : 39 < n
  · go_wp2
    go_ret
    exact ⟨rfl, hbw2⟩
  obtain ⟨i1, i2, i3, e1, e2, e3, q1, q2, q3, hcase⟩ := unhide HCA2 (by rw [HL.out]; omega)
  have Q1 := Lib.hid q1
  have Q2 := Lib.hid q2
  have Q3 := Lib.hid q3
  have HC := Lib.hid hcase
  clear q1 q2 q3 hcase
  go_wp2_with fail
  refine (check_is Q1.out A n c w2 hr2 hm).mono ?_
  rintro e w3 ⟨rfl, hb3⟩
  have hbw3 := hbw2.trans (hb3.mono hbw2.size)
  have hB3 := hB2.below hb3 hB2.lt
  have hr3 := (hr.below hbw3).more hbw3.size
  have hz3 := hbw3.size
  clear hb3 hB2 hr2 hbw2
  have hcap : (0 + n) * 24 ≤ 140737488355328 := by omega
  have hone := oneH h
  have hz3' : w.heap.size + 1 ≤ w3.heap.size := hB3.lt
  go_wp2_with (first
    | (at_builtin; (refine wpList_app rfl (.tmp 31) (.tmp 32) _ rfl (w.heap.size + 1) slt_op (n := 0) (xs := []) (m := n) (news := cellsH h) rfl (World.ownsRow_nil _ _ _ _) rfl hr3 hone hcap hz3' ?_; intro v5 w5 hown5 hg5 hb5 hat5 hne5; simp only [Nat.zero_add, List.nil_append] at hown5; obtain ⟨A5, c5, rfl⟩ := own_slice hown5; have hB5 := hB3.grown hg5 (fun k hk => by cases hk); have hbw5 := hbw3.trans (hb5.mono (Nat.le_succ _)); have hz5 := hbw5.size; have hz5' : w.heap.size + 1 ≤ w5.heap.size := hB5.lt; have d0 := hB5.cellS (i := 0) (v := .int .i64 tx) rfl; have d1 := hB5.cellS (i := 1) (v := .int .i64 what) rfl; have d2 := hB5.cellS (i := 2) (v := .int .i64 item) rfl; clear hg5 hat5 hne5))
    | (at_builtin; (refine wpList_app rfl (.tmp 34) (.tmp 36) _ rfl (w.heap.size + 1) slt_op (n := n) (xs := cellsH h) (m := 1) (news := cellsH [⟨tx, what, item⟩]) rfl (own_alloc hown5 _) rfl (rd_new' _ _ (cellsH [⟨tx, what, item⟩]) (by simp) rfl) (oneH _) (by omega) (by simp; omega) ?_; intro v6 w6 hown6 hg6 hb6 hat6 hne6; obtain ⟨A6, c6, rfl⟩ := own_slice hown6; have hB6 := (hB5.alloc (.cells (cellsH [⟨tx, what, item⟩]).toArray 24)).grown hg6 (fun k hk => by have := (hown5.lt k hk).1; omega); have d0 := hB6.cellS (i := 0) (v := .int .i64 tx) rfl; have d1 := hB6.cellS (i := 1) (v := .int .i64 what) rfl; have d2 := hB6.cellS (i := 2) (v := .int .i64 item) rfl; clear hg6 hat6 hne6)))
  have hbw6 : Below w.heap.size w w6 := (hbw5.alloc hz5 _).trans (hb6.mono (Nat.le_succ _))
  rw [← cellsH_append] at hown6
  have hr6 := rd_own hown6
  have hr0 := rd_new w6 24 (size := 3) (n := 1) (cellsH [⟨tx, what, item⟩]) rfl
  refine Calls.mono (check_is Q2.out (some ⟨w6.heap.size, 0, none⟩) 1 1 _ ?_ (by omega)) ?_
  · exact hr0.more (by simp)
  rintro e w7 ⟨rfl, hb7⟩
  have hz6 := hbw6.size
  have hbw7 : Below w.heap.size w w7 := (hbw6.alloc hz6 _).trans (hb7.mono (by simp; omega))
  have hr7 := ((hr6.alloc (Nat.le_refl _) (.cells (cellsH [⟨tx, what, item⟩]).toArray 24)).more (B' := (w6.alloc (.cells (cellsH [⟨tx, what, item⟩]).toArray 24)).heap.size) (by simp)).below hb7 |>.more hb7.size
  have hB7 := (hB6.alloc (.cells (cellsH [⟨tx, what, item⟩]).toArray 24)).below hb7 (by simp; have := hB6.lt; omega)
  clear hb7 hr0 hr6 hown6 hbw6 hB6 d0 d1 d2 hb6 hown5 hb5 hB5 hbw5 hz5 hz5' hr3
  go_wp2_with fail
  refine (check_is Q3.out A6 (n + 1) c6 w7 hr7 (by omega)).mono ?_
  rintro e w8 ⟨rfl, hb8⟩
  have hbw8 := hbw7.trans (hb8.mono hbw7.size)
  have hr8 := (hr.below hbw8).more hbw8.size
  have hE8 := hide ((unhide HE).below hbw8 hz0)
  have hB8 := hB7.below hb8 hB7.lt
  have d0 := hB8.cellS (i := 0) (v := .int .i64 tx) rfl
  clear hb8 hr7 hB7 hbw7
  have HTK : Hid (h.take n = h) := Lib.hid (List.take_of_length_le (by rw [HL.out]; omega))
  rcases HC.out with ⟨x, y, hx, h1, hy, h3⟩ | ⟨x, y, h1, hx, h2, hy, h3⟩ | ⟨h1, h2, h4, h3, h5⟩ | ⟨h1, h2, h4, h3⟩
  · rw [h1, h3]
    clear h1 h3
    go_wp2
    go_ret
    exact ⟨rfl, hbw8⟩
  · rw [h1, h2, h3]
    clear h1 h2 h3
    go_wp2
    go_ret
    exact ⟨rfl, hbw8⟩
  · rw [h1, h2, h3]
    rw [HL.out] at h5
    subst h5
    have h6 : (endGo tx h != 0) = true := by simpa using h4
    clear h1 h2 h3 h4
    go_wp2_with fail
    refine (end_any A i3 c h tx i3 w8 _ hr8 (Nat.le_refl _) (by omega)).mono ?_
    rw [HTK.out]
    rintro e w9 ⟨rfl, rfl⟩
    go_wp2_with fail
    refine (error_any 6 6 w8 (unhide hE8)).mono ?_
    rw [decide_eq_true rfl]
    rintro e w9 ⟨rfl, hb9⟩
    go_wp2
    go_ret
    exact ⟨rfl, hbw8.trans (hb9.mono hbw8.size)⟩
  · rw [h1, h2, h3]
    have h6 := Lib.hid h4
    clear h1 h2 h3 h4
    go_wp2_with fail
    refine (end_any A n c h tx n w8 _ hr8 (Nat.le_refl _) (by omega)).mono ?_
    rw [HTK.out, h6.out]
    rintro e w9 ⟨rfl, rfl⟩
    go_wp2
    go_ret
    exact ⟨rfl, hbw8⟩
theorem bytes_ops : Tryd.prog.bytesOf 24 = 24 := by kernel_rfl

/-! ### The row. -/
set_option maxRecDepth 100000 in
theorem lifted (os : Os) (started : os.Started) (H : Type) (enc : TypeId × Value → H) :
    ReturnsInHanded {} Tryd.checked os 3 .any (fun w args => (Rows.historyEndsSpec.pre enc Tryd.prog Tryd.f3 [] false w args ∧ laidMetH Tryd.prog dLaid w) ∧ sizedMet enc Tryd.prog Tryd.f3 (OpenSpec.ofChange Rows.historyEndsSpec) false w args) (Rows.historyEndsSpec.post enc Tryd.prog Tryd.f3 false true false false) := by
  refine returnsInHanded_of_change_and (C := Tryd.checked) (X := fun w _ => laidMetH Tryd.prog dLaid w) (fun _ _ _ hh h => h.of_heap hh) dOwn started (by kernel_rfl) Tryd.func3
    (ChangeSpec.witness_at (enc := enc) (C := Tryd.checked) (os := os) (X := fun w _ => laidMetH Tryd.prog dLaid w) false (laidWorld os) #[.slice none 0 0, .agg #[.int .i64 0, .int .i64 0, .int .i64 0]] 8 rfl (by kernel_rfl) (by kernel_rfl) (by kernel_rfl) (by kernel_rfl) (by kernel_rfl) (laidWorld_met os _)) ?_
  intro W base args ds gs before hval0 hW hcnd hsz0 hL _
  have hval : ∀ (j : Nat) t v, Tryd.f3.params[j]? = some t → args[j]? = some v → Value.okWide Tryd.prog W .any base t v := hval0
  have hW' := hW
  obtain ⟨p, q, hA0, hV, rfl, hfz, hnd⟩ := hW
  have hA : DataW.TrodAll enc Tryd.prog W 0 (fun _ => true) true Tryd.f3.params.toList args.toList ds p := hA0
  have hsz : (DataW.weightsEach Tryd.prog (Tryd.f3.params.toList ++ Rows.historyEndsSpec.plain.varTypes Tryd.prog) (ds ++ gs)).all (· ≤ reachBytes) = true := hsz0
  rw [Tryd.params3] at hA hval hsz
  obtain ⟨v0, vs0, d0, ds0, p0, q0, hargs, rfl, rfl, h0, r0⟩ := trodAll_cons hA
  obtain ⟨v1, vs1, d1, ds1, p1, q1, rfl, rfl, rfl, h1, r1⟩ := trodAll_cons r0
  obtain ⟨rfl, rfl, rfl⟩ := trodAll_nil r1
  obtain rfl : args = #[v0, v1] := by cases args; simp_all
  obtain ⟨rfl, rfl⟩ := trodVars_none hV
  simp only [List.append_nil] at hW'
  have hk0 := h0
  have hlt0 : ∀ x ∈ p0, x.block < W.heap.size := fun x hx => hW'.lt x (by simp [hx])
  obtain ⟨A0, n0, c0, l0, rfl, rd0, bd0⟩ := open_ops Tryd.underlying22 Tryd.underlying24 Tryd.underlying3 rfl rfl rfl (by kernel_rfl) (by kernel_rfl) (hval 0 22 v0 rfl rfl) h0 (fun e s he => by have := sized_slice hsz (j := 0) (t := 22) (e := 24) rfl (congrArg some he) Tryd.underlying22; rwa [bytes_ops] at this)
  have hk1 := h1
  have hlt1 : ∀ x ∈ p1, x.block < W.heap.size := fun x hx => hW'.lt x (by simp [hx])
  obtain ⟨o1, rfl⟩ := open_op Tryd.underlying24 Tryd.underlying3 rfl rfl rfl (by kernel_rfl) (by kernel_rfl) (hval 1 24 v1 rfl rfl) h1
  clear hA0 hval0
  refine (walk A0 n0 c0 l0 o1 W (et_of_laid hL) rd0 bd0).mono fun e W' ⟨he, hg⟩ => ?_
  subst he
  exact ⟨_, rfl, post_slices (pa := _) (pv := []) hW' hg (by simp) (fun _ _ _ => (trodAll_cons_mk (shut_bool Tryd.underlying4 _) trodAll_mk0)) (trodAll_cons_mk (Below.trod laidOut (by kernel_rfl) (of_decide_eq_true (by kernel_rfl)) hk0 hg hlt0) (trodAll_cons_mk (Below.trod laidOut (by kernel_rfl) (of_decide_eq_true (by kernel_rfl)) hk1 hg hlt1) trodAll_mk0)) rfl⟩

theorem over : Rows.HistoryEndsSaid :=
  OpenClaim.holds_of_wide 3 Tryd.f3 rfl rfl rfl rfl rfl rfl rfl ⟨rfl, rfl, rfl, rfl, rfl⟩ rfl rfl rfl rfl rfl (by kernel_rfl) Tryd.func3 (by kernel_rfl)
    (of_decide_eq_true (by kernel_rfl)) (by unfold Func.isWrapper; first | (rw [if_pos (by decide +kernel)]; kernel_rfl) | (rw [if_neg (by decide +kernel)]; exact ⟨rfl, rfl⟩))
    (fun os started H enc _ => lifted os started H enc)

/-- The statement: the tied card. -/
theorem proved : Rows.HistoryEndsCardSaid :=
  Claim7.holds_tied_plain_at .later [] [.handle] true _ true
    over (fun _ h => by cases h) (by kernel_rfl) (fun _ h => by cases h) historyEnds_row_tie rfl ⟨rfl, rfl⟩ (by kernel_rfl) rfl
    (fun f fn hf hfn => by
      obtain rfl : f = 3 := Option.some.inj ((show Tryd.prog.funcNamed "locklane/lanelaw4.HistoryEnds" = some 3 by kernel_rfl).symm.trans hf) |>.symm
      obtain rfl : fn = Tryd.f3 := (Option.some.inj (Tryd.func3.symm.trans hfn)).symm
      exact ⟨by kernel_rfl, fun j t ht => by
        rw [Tryd.params3] at ht
        have hm : t ∈ [22, 24] := by have := Array.mem_of_getElem? ht; simpa using this
        have hall : ([22, 24].all fun u => !Tryd.prog.wantsStandIn u) = true := by kernel_rfl
        exact (show Tryd.prog.wantsStandIn t = false by simpa using List.all_eq_true.1 hall t hm)⟩)
    (by kernel_rfl)
#print axioms proved
end Go.Proofs.YtoboecppilmnnaaDoor.historyEnds

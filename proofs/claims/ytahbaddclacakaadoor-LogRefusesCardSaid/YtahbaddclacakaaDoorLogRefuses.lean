
/-
  PROVED: the tied card of lanelaw4.LogRefuses: it returns true, for every deal's number and every item's: an op of a deal that has ended, or of none, leaves no byte in the log. Condition: the variable errors.errorType begins as the program's text lays it (the card ties it); the form's own reach.
-/
import Derived.Test.YtahbaddclacakaaDoorE1
import Derived.Test.YtahbaddclacakaaDoorLog

namespace Go.Proofs.YtahbaddclacakaaDoor.logRefuses
open Go.ChangeShapes Go.WideShapes Go.ChangeAt Go.RowKit Go.Proofs.YtahbaddclacakaaDoor

theorem bad1 {tx item : Int} (h : tx < 1 ∨ 6 < tx ∨ item < 1 ∨ 6 < item) : doF log0 ⟨tx, 1, item⟩ = (1, log0) := by
  have hr : rightB ⟨tx, 1, item⟩ = false := by
    cases e : rightB ⟨tx, 1, item⟩ with
    | false => rfl
    | true =>
      obtain ⟨h1, h2, _, _, h5, _⟩ := rightB_get e
      have := h5 (by show (1 : Int) < 3; decide)
      simp only at h1 h2 this
      omega
  have hc : (checkF (log0.h ++ [⟨tx, 1, item⟩])).2 = 1 := by
    show (checkF [⟨tx, 1, item⟩]).2 = 1
    unfold checkF
    rw [if_neg (by simp)]
    unfold checkGo
    rw [if_pos hr]
  rw [doF_bad rfl (by rw [hc]; decide), hc]
def st1 (tx item : Int) : LogSt := (doF log0 ⟨tx, 1, item⟩).2
def st2 (tx item : Int) : LogSt := (doF (st1 tx item) ⟨tx, 4, 0⟩).2
def okB (s : LogSt) : Bool := decide (s.h.length ≤ 40) && decide (s.b.length ≤ 1000000) && decide (s.safe ≤ 1000000) && decide (-1 ≤ s.left ∧ s.left ≤ 4611686018427387904)
theorem okB_ok {s : LogSt} (h : okB s = true) : LogOk s := by
  unfold okB at h
  simp only [Bool.and_eq_true, decide_eq_true_eq] at h
  exact ⟨h.1.1.1, h.1.1.2, h.1.2, h.2⟩
def goodB (tx item : Int) : Bool := decide ((doF log0 ⟨tx, 1, item⟩).1 = 0) && okB (st1 tx item) && decide ((doF (st1 tx item) ⟨tx, 4, 0⟩).1 = 0) && okB (st2 tx item) && decide (4 ≤ (st2 tx item).b.length) &&
  decide ((doF (st2 tx item) ⟨tx, 1, item⟩).1 = 6) && decide ((doF (st2 tx item) ⟨tx, 1, item⟩).2.b.length = (st2 tx item).b.length) && decide ((doF (st2 tx item) ⟨tx, 1, item⟩).2.h.length = 2)
theorem good_all : ∀ tx ∈ ([1, 2, 3, 4, 5, 6] : List Int), ∀ item ∈ ([1, 2, 3, 4, 5, 6] : List Int), goodB tx item = true := by decide +kernel
theorem good_in {tx item : Int} (h : ¬ (tx < 1 ∨ 6 < tx ∨ item < 1 ∨ 6 < item)) : goodB tx item = true := by
  refine good_all tx ?_ item ?_
  · have : tx = 1 ∨ tx = 2 ∨ tx = 3 ∨ tx = 4 ∨ tx = 5 ∨ tx = 6 := by omega
    rcases this with rfl | rfl | rfl | rfl | rfl | rfl <;> decide
  · have : item = 1 ∨ item = 2 ∨ item = 3 ∨ item = 4 ∨ item = 5 ∨ item = 6 := by omega
    rcases this with rfl | rfl | rfl | rfl | rfl | rfl <;> decide
theorem log0_ok : LogOk log0 := okB_ok (by decide)

set_option maxRecDepth 100000 in
set_option maxHeartbeats 4000000 in
theorem walk (tx item : Int) (w : World) (hE : Et w) : Calls Tryd.prog 3 #[.int .i64 tx, .int .i64 item] w fun e w' => e = .returned (.bool true) ∧ Below w.heap.size w w' := by
  have C0 := hide (log_new w)
  obtain ⟨w1, hw1⟩ : ∃ w1, w1 = w.alloc (.cells #[.slice none 0 0, .string ⟨#[]⟩, .int .i64 0, .int .i64 (-1), .bool false] 55) := ⟨_, rfl⟩
  have hB1 : LogB w1 w.heap.size log0 := by rw [hw1]; exact log_new_is w
  have hb1 : Below w.heap.size w w1 := by rw [hw1]; exact (Below.refl _ _).alloc (Nat.le_refl _) _
  rw [← hw1] at C0
  have hz1 := hb1.size
  have hpos := hE.pos
  have hE1 := hE.below hb1 hpos
  clear hw1
  by_cases hbad : tx < 1 ∨ 6 < tx ∨ item < 1 ∨ 6 < item
  · have CD := hide (do_any w.heap.size log0 ⟨tx, 1, item⟩ w1 hB1 log0_ok)
    unfold DoPost HOp.val at CD
    rw [bad1 hbad] at CD
    rw [show errV ((1 : Int), log0).1 = .iface 56 (.int .i64 1) from rfl] at CD
    have h4 : tx < 1 ∨ (¬ tx < 1 ∧ 6 < tx) ∨ (¬ tx < 1 ∧ ¬ 6 < tx ∧ item < 1) ∨ (¬ tx < 1 ∧ ¬ 6 < tx ∧ ¬ item < 1 ∧ 6 < item) := by omega
    have HE := hide (fun w' (hb : Below w.heap.size w w') => hE.below hb hpos)
    clear hbad hE1
    rcases h4 with h4 | ⟨g1, h4⟩ | ⟨g1, g2, h4⟩ | ⟨g1, g2, g3, h4⟩
    all_goals
      go_enter Tryd.func3, Tryd.ntmps3
      go_wp2_with fail
      refine (unhide C0).mono ?_
      rintro e w2 ⟨rfl, rfl⟩
      go_wp2_with fail
      refine (unhide CD).mono ?_
      rintro e w3 ⟨rfl, hB3, hg3⟩
      have hb3 := hb1.trans (below_grown hg3 (Nat.le_refl _) hz1)
      have hE3 := unhide HE w3 hb3
      have CE := hide (error_same 1 w3 hE3)
      rw [show errV 1 = .iface 56 (.int .i64 1) from rfl] at CE
      go_wp2_with fail
      refine (unhide CE).mono ?_
      rintro e w4 ⟨rfl, hb4⟩
      have hB4 := hB3.below hb4 (Nat.le_refl _)
      have hbw4 := hb3.trans (hb4.mono hb3.size)
      have CB := hide (bytes_any w.heap.size log0 w4 hB4)
      go_wp2_with fail
      refine (unhide CB).mono ?_
      rintro e w5 ⟨rfl, rfl⟩
      rw [show (log0.b.length : Int) = 0 from rfl]
      go_wp2
      go_ret
      exact ⟨rfl, hbw4⟩
  have hg := good_in hbad
  unfold goodB at hg
  simp only [Bool.and_eq_true, decide_eq_true_eq] at hg
  obtain ⟨⟨⟨⟨⟨⟨⟨q1, q2⟩, q3⟩, q4⟩, q5⟩, q6⟩, q7⟩, q8⟩ := hg
  have C1 := hide (do_any w.heap.size log0 ⟨tx, 1, item⟩ w1 hB1 log0_ok)
  have C2 := hide (fun w' (hB : LogB w' w.heap.size (st1 tx item)) => do_any w.heap.size (st1 tx item) ⟨tx, 4, 0⟩ w' hB (okB_ok q2))
  have C3 := hide (fun w' (hB : LogB w' w.heap.size (st2 tx item)) => do_any w.heap.size (st2 tx item) ⟨tx, 1, item⟩ w' hB (okB_ok q4))
  have hk3 : (doF (st2 tx item) ⟨tx, 1, item⟩).2.h.length ≤ 40 := by omega
  unfold DoPost at C1 C2 C3
  rw [q1, show (doF log0 ⟨tx, 1, item⟩).2 = st1 tx item from rfl, errV_zero] at C1
  rw [q3, show (doF (st1 tx item) ⟨tx, 4, 0⟩).2 = st2 tx item from rfl, errV_zero] at C2
  rw [q6, show errV 6 = .iface 56 (.int .i64 6) from rfl] at C3
  have g1 : ¬ tx < 1 := fun h => hbad (.inl h)
  have g2 : ¬ 6 < tx := fun h => hbad (.inr (.inl h))
  have g3 : ¬ item < 1 := fun h => hbad (.inr (.inr (.inl h)))
  have g4 : ¬ 6 < item := fun h => hbad (.inr (.inr (.inr h)))
  have HQ := Lib.hid (And.intro q7 q8)
  have HK := Lib.hid hk3
  have HE := hide (fun w' (hb : Below w.heap.size w w') => hE.below hb hpos)
  clear q1 q2 q3 q4 q6 q7 q8 hk3 hE1 hbad
  generalize doF (st2 tx item) ⟨tx, 1, item⟩ = D3 at *
  generalize st2 tx item = s2 at *
  generalize st1 tx item = s1 at *
  unfold HOp.val at C1 C2 C3
  go_enter Tryd.func3, Tryd.ntmps3
  go_wp2_with fail
  refine (unhide C0).mono ?_
  rintro e w2 ⟨rfl, rfl⟩
  go_wp2_with fail
  refine (unhide C1).mono ?_
  rintro e w3 ⟨rfl, hB3, hg3⟩
  have hb3 := hb1.trans (below_grown hg3 (Nat.le_refl _) hz1)
  go_wp2_with fail
  refine (unhide C2 w3 hB3).mono ?_
  rintro e w4 ⟨rfl, hB4, hg4⟩
  have hb4 := hb3.trans (below_grown hg4 (Nat.le_refl _) hb3.size)
  have CB := hide (bytes_any w.heap.size s2 w4 hB4)
  go_wp2_with fail
  refine (unhide CB).mono ?_
  rintro e w5 ⟨rfl, rfl⟩
  obtain ⟨nb, hnb⟩ : ∃ nb, s2.b.length = nb := ⟨_, rfl⟩
  rw [hnb] at q5 HQ ⊢
  clear hnb CB C0 C1 C2
  have hnb4 : ¬ (nb : Int) < 4 := by omega
  have hnb5 : (4 : Int) ≤ (nb : Int) := by omega
  go_wp2_with fail
  refine (unhide C3 w5 hB4).mono ?_
  rintro e w6 ⟨rfl, hB6, hg6⟩
  have hb6 := hb4.trans (below_grown hg6 (Nat.le_refl _) hb4.size)
  have CE := hide (error_same 6 w6 (unhide HE w6 hb6))
  rw [show errV 6 = .iface 56 (.int .i64 6) from rfl] at CE
  go_wp2_with fail
  refine (unhide CE).mono ?_
  rintro e w7 ⟨rfl, hb7⟩
  have hB7 := hB6.below hb7 (Nat.le_refl _)
  have hbw7 := hb6.trans (hb7.mono hb6.size)
  have CB := hide (bytes_any w.heap.size D3.2 w7 hB7)
  rw [HQ.out.1] at CB
  have CA := hide (all_any w.heap.size D3.2 w7 hB7 HK.out)
  rw [HQ.out.2] at CA
  clear CE C3 hB6 hB7 hg6 hb7
  go_wp2_with fail
  refine (unhide CB).mono ?_
  rintro e w8 ⟨rfl, rfl⟩
  go_wp2_with fail
  refine (unhide CA).mono ?_
  rintro e w9 ⟨v9, rfl, ho9, hb9⟩
  obtain ⟨A9, c9, rfl⟩ := own_slice ho9
  have hbw9 := hbw7.trans (hb9.mono hbw7.size)
  go_wp2
  go_ret
  exact ⟨rfl, hbw9⟩

/-! ### The row. -/
set_option maxRecDepth 100000 in
theorem lifted (os : Os) (started : os.Started) (H : Type) (enc : TypeId × Value → H) :
    ReturnsInHanded {} Tryd.checked os 3 .any (fun w args => (Rows.logRefusesSpec.pre enc Tryd.prog Tryd.f3 [] false w args ∧ laidMetH Tryd.prog dLaid w) ∧ sizedMet enc Tryd.prog Tryd.f3 (OpenSpec.ofChange Rows.logRefusesSpec) false w args) (Rows.logRefusesSpec.post enc Tryd.prog Tryd.f3 false true false false) := by
  refine returnsInHanded_of_change_and (C := Tryd.checked) (X := fun w _ => laidMetH Tryd.prog dLaid w) (fun _ _ _ hh h => h.of_heap hh) dOwn started (by kernel_rfl) Tryd.func3
    (ChangeSpec.witness_at (enc := enc) (C := Tryd.checked) (os := os) (X := fun w _ => laidMetH Tryd.prog dLaid w) false (laidWorld os) #[.int .i64 0, .int .i64 0] 8 rfl (by kernel_rfl) (by kernel_rfl) (by kernel_rfl) (by kernel_rfl) (by kernel_rfl) (laidWorld_met os _)) ?_
  intro W base args ds gs before hval0 hW hcnd hsz0 hL _
  have hval : ∀ (j : Nat) t v, Tryd.f3.params[j]? = some t → args[j]? = some v → Value.okWide Tryd.prog W .any base t v := hval0
  have hW' := hW
  obtain ⟨p, q, hA0, hV, rfl, hfz, hnd⟩ := hW
  have hA : DataW.TrodAll enc Tryd.prog W 0 (fun _ => true) true Tryd.f3.params.toList args.toList ds p := hA0
  rw [Tryd.params3] at hA hval
  obtain ⟨v0, vs0, d0, ds0, p0, q0, hargs, rfl, rfl, h0, r0⟩ := trodAll_cons hA
  obtain ⟨v1, vs1, d1, ds1, p1, q1, rfl, rfl, rfl, h1, r1⟩ := trodAll_cons r0
  obtain ⟨rfl, rfl, rfl⟩ := trodAll_nil r1
  obtain rfl : args = #[v0, v1] := by cases args; simp_all
  obtain ⟨rfl, rfl⟩ := trodVars_none hV
  simp only [List.append_nil] at hW'
  obtain ⟨a0, rfl, rfl, rfl, w0⟩ := open_int Tryd.underlying3 (hval 0 3 v0 rfl rfl) h0
  obtain ⟨a1, rfl, rfl, rfl, w1⟩ := open_int Tryd.underlying3 (hval 1 3 v1 rfl rfl) h1
  clear hA0 hval0
  refine (walk a0 a1 W (et_of_laid hL) ).mono fun e W' ⟨he, hg⟩ => ?_
  subst he
  exact ⟨_, rfl, post_slices (pa := _) (pv := []) hW' hg (by simp) (fun _ _ _ => (trodAll_cons_mk (shut_bool Tryd.underlying4 _) trodAll_mk0)) (trodAll_cons_mk (shut_int Tryd.underlying3 w0) (trodAll_cons_mk (shut_int Tryd.underlying3 w1) trodAll_mk0)) rfl⟩

theorem over : Rows.LogRefusesSaid :=
  OpenClaim.holds_of_wide 3 Tryd.f3 rfl rfl rfl rfl rfl rfl rfl ⟨rfl, rfl, rfl, rfl, rfl⟩ rfl rfl rfl rfl rfl (by kernel_rfl) Tryd.func3 (by kernel_rfl)
    (of_decide_eq_true (by kernel_rfl)) (by unfold Func.isWrapper; first | (rw [if_pos (by decide +kernel)]; kernel_rfl) | (rw [if_neg (by decide +kernel)]; exact ⟨rfl, rfl⟩))
    (fun os started H enc _ => lifted os started H enc)

/-- The statement: the tied card. -/
theorem proved : Rows.LogRefusesCardSaid :=
  Claim7.holds_tied_plain_at .later [] [.handle] true _ true
    over (fun _ h => by cases h) (by kernel_rfl) (fun _ h => by cases h) logRefuses_row_tie rfl ⟨rfl, rfl⟩ (by kernel_rfl) rfl
    (fun f fn hf hfn => by
      obtain rfl : f = 3 := Option.some.inj ((show Tryd.prog.funcNamed "locklane/lanelaw4.LogRefuses" = some 3 by kernel_rfl).symm.trans hf) |>.symm
      obtain rfl : fn = Tryd.f3 := (Option.some.inj (Tryd.func3.symm.trans hfn)).symm
      exact ⟨by kernel_rfl, fun j t ht => by
        rw [Tryd.params3] at ht
        have hm : t ∈ [3] := by have := Array.mem_of_getElem? ht; simpa using this
        have hall : ([3].all fun u => !Tryd.prog.wantsStandIn u) = true := by kernel_rfl
        exact (show Tryd.prog.wantsStandIn t = false by simpa using List.all_eq_true.1 hall t hm)⟩)
    (by kernel_rfl)
#print axioms proved
end Go.Proofs.YtahbaddclacakaaDoor.logRefuses


/-
  PROVED: lanelaw4.ViewBlind returns true, for every two numbers: three deals that write blindly have no serial order by their orders of odd operations, and yet look the same in the order 1, 2, 3. The variable errors.errorType starts as the program's text lays it (the card's tie); no condition beyond the form's own reach.
-/
import Derived.Test.YtkpnpkikonlmpaaGreatDoorV4
import Derived.Test.YtkpnpkikonlmpaaGreatDoorSerial3
import Derived.Test.YtkpnpkikonlmpaaGreatDoorPieces
import Derived.Test.YtkpnpkikonlmpaaGreatDoorE1
import Derived.Deep.DeepCutAuto

namespace Go.Proofs.YtkpnpkikonlmpaaGreatDoor.viewBlind
open Go.ChangeShapes Go.WideShapes Go.ChangeAt Go.RowKit Go.Proofs.YtkpnpkikonlmpaaGreatDoor

/-! ### The history, and what it tells. -/
def blH6 (a b : Int) : List HOp := [⟨1, 2, a⟩, ⟨2, 2, a⟩, ⟨2, 2, b⟩, ⟨1, 2, b⟩, ⟨3, 2, a⟩, ⟨3, 2, b⟩]
def blH3 : List HOp := [⟨1, 3, 0⟩, ⟨2, 3, 0⟩, ⟨3, 3, 0⟩]
def blH (a b : Int) : List HOp := blH6 a b ++ blH3
set_option maxRecDepth 100000 in
theorem key0 : ∀ i j : Fin 6, i ≠ j → (checkF (blH ((i.val : Int) + 1) ((j.val : Int) + 1))).2 = 0 ∧
    topGo (edgesF (blH ((i.val : Int) + 1) ((j.val : Int) + 1))) (dealsL (doneL (blH ((i.val : Int) + 1) ((j.val : Int) + 1)))).length (dealsL (doneL (blH ((i.val : Int) + 1) ((j.val : Int) + 1)))) [] = none ∧
    vOrd (doneL (blH ((i.val : Int) + 1) ((j.val : Int) + 1))) = some [1, 2, 3] := by decide +kernel
theorem key {a b : Int} (ha : 1 ≤ a) (ha2 : a ≤ 6) (hb : 1 ≤ b) (hb2 : b ≤ 6) (hab : a ≠ b) : ordE (blH a b) = 8 ∧ vordE (blH a b) = 0 ∧ vordL (blH a b) = [1, 2, 3] := by
  have h := key0 ⟨(a - 1).toNat, by omega⟩ ⟨(b - 1).toNat, by omega⟩ (fun e => hab (by injection e; omega))
  simp only at h
  rw [show (((a - 1).toNat : Nat) : Int) + 1 = a by omega, show (((b - 1).toNat : Nat) : Int) + 1 = b by omega] at h
  obtain ⟨h1, h2, h3⟩ := h
  refine ⟨(ord_none h1 ?_).1, (vord_some h1 h3).1, (vord_some h1 h3).2⟩
  unfold orderOf
  rw [topF_up (dealsL_up _)]
  exact h2

/-! ### The walk. -/
set_option maxRecDepth 100000 in
set_option maxHeartbeats 8000000 in
theorem walk (a b : Int) (w : World) (hE : Et w) :
    Calls Tryz.prog 5 #[.int .i64 a, .int .i64 b] w fun e w' => e = .returned (.bool true) ∧ Below w.heap.size w w' := by
  have hz0 := hE.pos
  have CE := hide (fun w1 (hb : Below w.heap.size w w1) => error_same 8 w1 (hE.below hb hz0))
  have C0 := hide (vorder_any none 0 0 [] w Rd.nil (by omega))
  rw [show vordE [] = 0 from by decide, errV_zero] at C0
  have CO := hide (fun A n c w1 (hr : Rd w1 w1.heap.size 3 A n (cellsH (blH a b))) (hn : n ≤ 6000000000000) => sorder_any A n c (blH a b) w1 hr hn)
  have CV := hide (fun A n c w1 (hr : Rd w1 w1.heap.size 3 A n (cellsH (blH a b))) (hn : n ≤ 6000000000000) => vorder_any A n c (blH a b) w1 hr hn)
  have HK := Lib.hid (key (a := a) (b := b))
  clear hE
  go_enter Tryz.func5, Tryz.ntmps5
  go_upto_region 1 with fail
  go_cut [30] (fun s30 wx => s30 = .bool (decide (a < 1 ∨ 6 < a ∨ b < 1 ∨ 6 < b ∨ a = b)) ∧ w = wx)
  case first =>
    clear CE C0 CO CV HK
    by_cases h1 : a < 1
    · have t1 : decide (a < 1) = true := decide_eq_true h1
      have tv := decide_eq_true (p := a < 1 ∨ 6 < a ∨ b < 1 ∨ 6 < b ∨ a = b) (.inl h1)
      go_wp2
      go_meet
      case rel => exact ⟨by rw [tv], rfl⟩
    have t1 : decide (a < 1) = false := decide_eq_false h1
    by_cases h2 : 6 < a
    · have t2 : decide (a > 6) = true := decide_eq_true h2
      have tv := decide_eq_true (p := a < 1 ∨ 6 < a ∨ b < 1 ∨ 6 < b ∨ a = b) (.inr (.inl h2))
      go_wp2
      go_meet
      case rel => exact ⟨by rw [tv], rfl⟩
    have t2 : decide (a > 6) = false := decide_eq_false h2
    by_cases h3 : b < 1
    · have t3 : decide (b < 1) = true := decide_eq_true h3
      have tv := decide_eq_true (p := a < 1 ∨ 6 < a ∨ b < 1 ∨ 6 < b ∨ a = b) (.inr (.inr (.inl h3)))
      go_wp2
      go_meet
      case rel => exact ⟨by rw [tv], rfl⟩
    have t3 : decide (b < 1) = false := decide_eq_false h3
    by_cases h4 : 6 < b
    · have t4 : decide (b > 6) = true := decide_eq_true h4
      have tv := decide_eq_true (p := a < 1 ∨ 6 < a ∨ b < 1 ∨ 6 < b ∨ a = b) (.inr (.inr (.inr (.inl h4))))
      go_wp2
      go_meet
      case rel => exact ⟨by rw [tv], rfl⟩
    have t4 : decide (b > 6) = false := decide_eq_false h4
    by_cases h5 : a = b
    · have t5 : (a == b) = true := by simpa using h5
      have tv := decide_eq_true (p := a < 1 ∨ 6 < a ∨ b < 1 ∨ 6 < b ∨ a = b) (.inr (.inr (.inr (.inr h5))))
      clear h5
      go_wp2
      go_meet
      case rel => exact ⟨by rw [tv], rfl⟩
    · have t5 : (a == b) = false := by simpa using h5
      have tv := decide_eq_false (p := a < 1 ∨ 6 < a ∨ b < 1 ∨ 6 < b ∨ a = b) (by omega)
      go_wp2
      go_meet
      case rel => exact ⟨by rw [tv], rfl⟩
  case rest =>
  obtain ⟨rfl, rfl⟩ := hcut
  by_cases hbad : a < 1 ∨ 6 < a ∨ b < 1 ∨ 6 < b ∨ a = b
  · rw [decide_eq_true hbad]
    clear hbad HK CO CV CE
    go_wp2_with fail
    refine (unhide C0).mono ?_
    rintro e w1 ⟨A1, k1, c1, rfl, hd1, hb1⟩
    go_wp2
    go_ret
    exact ⟨rfl, hb1⟩
  · rw [decide_eq_false hbad]
    have HV := Lib.hid (HK.out (by omega) (by omega) (by omega) (by omega) (by omega))
    rw [HV.out.1] at CO
    rw [HV.out.2.1, errV_zero] at CV
    rw [HV.out.2.2] at CV
    clear hbad HK C0
    go_wp2_with (first
      | (at_builtin; (refine wpList_app rfl (.tmp 37) (.tmp 50) _ rfl w.heap.size slt_op (n := 0) (xs := []) (m := 6) (news := cellsH (blH6 a b)) rfl (World.ownsRow_nil _ _ _ _) rfl (rd_new' _ _ (cellsH (blH6 a b)) (by simp) rfl) (oneH _) (by omega) (by simp) ?_); intro v4 w4 hown4 hg4 hb4 hat4 hne4; (rw [List.nil_append] at hown4); obtain ⟨A4, c4, rfl⟩ := own_slice hown4; have hbw4 := ((Below.refl w.heap.size w).alloc (Nat.le_refl _) (.cells (cellsH (blH6 a b)).toArray 37)).trans (hb4.mono (Nat.le_refl _)); have hz4 := hbw4.size)
      | (at_builtin; (refine wpList_app rfl (.tmp 52) (.tmp 56) _ rfl w.heap.size slt_op (n := 6) (xs := cellsH (blH6 a b)) (m := 3) (news := cellsH blH3) rfl (own_alloc hown4 _) rfl (rd_new' _ _ (cellsH blH3) (by simp) rfl) (oneH _) (by omega) (by simp; omega) ?_); intro v5 w5 hown5 hg5 hb5 hat5 hne5; obtain ⟨A5, c5, rfl⟩ := own_slice hown5))
    have hbw5 := (hbw4.alloc hbw4.size (.cells (cellsH blH3).toArray 37)).trans (hb5.mono (Nat.le_refl _))
    rw [← cellsH_append] at hown5
    have hd5 : Rd w5 w5.heap.size 3 A5 9 (cellsH (blH a b)) := rd_own hown5
    have C1 := hide (unhide CO A5 9 c5 w5 hd5 (by omega))
    clear hbw4 hb4 hg4 hat4 hne4 hb5 hg5 hat5 hne5 hown4 hown5 CO
    go_wp2_with fail
    refine (unhide C1).mono ?_
    rintro e w6 ⟨v6, k6, rfl, ho6, hb6⟩
    obtain ⟨A6, c6, rfl⟩ := own_slice ho6
    have hbw6 := hbw5.trans (hb6.mono hbw5.size)
    have C2 := hide (unhide CV A5 9 c5 w6 ((hd5.below hb6).more hb6.size) (by omega))
    clear C1 hb6 hbw5 hd5 ho6 CV
    go_wp2_with fail
    refine (unhide C2).mono ?_
    rintro e w7 ⟨A7, k7, c7, rfl, hd7, hb7⟩
    have hbw7 := hbw6.trans (hb7.mono hbw6.size)
    obtain rfl : k7 = 3 := by rw [← hd7.ilen]; rfl
    have C3 := hide (unhide CE w7 hbw7)
    clear C2 hb7 hbw6 CE
    go_wp2_with fail
    refine (unhide C3).mono ?_
    rintro e w8 ⟨rfl, hb8⟩
    have hbw8 := hbw7.trans (hb8.mono hbw7.size)
    have hd8 := (hd7.below hb8).more hb8.size
    obtain ⟨bb, off, x0, he, _, hx0, q0⟩ := hd8.int (k := 0) (by omega)
    cases he
    obtain ⟨_, _, x1, he, _, hx1, q1⟩ := hd8.int (k := 1) (by omega)
    cases he
    obtain ⟨_, _, x2, he, _, hx2, q2⟩ := hd8.int (k := 2) (by omega)
    cases he
    cases hx0
    cases hx1
    cases hx2
    clear C3 hb8 hbw7 hd7 hd8
    simp only [Nat.add_zero] at q0
    go_wp2
    go_ret
    exact ⟨rfl, hbw8⟩

/-! ### The row. -/
set_option maxRecDepth 100000 in
theorem lifted (os : Os) (started : os.Started) (H : Type) (enc : TypeId × Value → H) :
    ReturnsInHanded {} Tryz.checked os 5 .any (fun w args => (Rows.viewBlindSpec.pre enc Tryz.prog Tryz.f5 [] false w args ∧ laidMetH Tryz.prog dLaid w) ∧ sizedMet enc Tryz.prog Tryz.f5 (OpenSpec.ofChange Rows.viewBlindSpec) false w args) (Rows.viewBlindSpec.post enc Tryz.prog Tryz.f5 false true false false) := by
  refine returnsInHanded_of_change_and (C := Tryz.checked) (X := fun w _ => laidMetH Tryz.prog dLaid w) (fun _ _ _ hh h => h.of_heap hh) dOwn started (by kernel_rfl) Tryz.func5
    (ChangeSpec.witness_at (enc := enc) (C := Tryz.checked) (os := os) (X := fun w _ => laidMetH Tryz.prog dLaid w) false (laidWorld os) #[.int .i64 0, .int .i64 0] 8 rfl (by kernel_rfl) (by kernel_rfl) (by kernel_rfl) (by kernel_rfl) (by kernel_rfl) (laidWorld_met os _)) ?_
  intro W base args ds gs before hval0 hW hcnd hsz0 hL _
  have hval : ∀ (j : Nat) t v, Tryz.f5.params[j]? = some t → args[j]? = some v → Value.okWide Tryz.prog W .any base t v := hval0
  have hW' := hW
  obtain ⟨p, q, hA0, hV, rfl, hfz, hnd⟩ := hW
  have hA : DataW.TrodAll enc Tryz.prog W 0 (fun _ => true) true Tryz.f5.params.toList args.toList ds p := hA0
  rw [Tryz.params5] at hA hval
  obtain ⟨v0, vs0, d0, ds0, p0, q0, hargs, rfl, rfl, h0, r0⟩ := trodAll_cons hA
  obtain ⟨v1, vs1, d1, ds1, p1, q1, rfl, rfl, rfl, h1, r1⟩ := trodAll_cons r0
  obtain ⟨rfl, rfl, rfl⟩ := trodAll_nil r1
  obtain rfl : args = #[v0, v1] := by cases args; simp_all
  obtain ⟨rfl, rfl⟩ := trodVars_none hV
  simp only [List.append_nil] at hW'
  obtain ⟨a0, rfl, rfl, rfl, w0⟩ := open_int Tryz.underlying3 (hval 0 3 v0 rfl rfl) h0
  obtain ⟨a1, rfl, rfl, rfl, w1⟩ := open_int Tryz.underlying3 (hval 1 3 v1 rfl rfl) h1
  clear hA0 hval0
  refine (walk a0 a1 W (et_of_laid hL) ).mono fun e W' ⟨he, hg⟩ => ?_
  subst he
  exact ⟨_, rfl, post_slices (pa := _) (pv := []) hW' hg (by simp) (fun _ _ _ => (trodAll_cons_mk (shut_bool Tryz.underlying4 _) trodAll_mk0)) (trodAll_cons_mk (shut_int Tryz.underlying3 w0) (trodAll_cons_mk (shut_int Tryz.underlying3 w1) trodAll_mk0)) rfl⟩

theorem over : Rows.ViewBlindSaid :=
  OpenClaim.holds_of_wide 5 Tryz.f5 rfl rfl rfl rfl rfl rfl rfl ⟨rfl, rfl, rfl, rfl, rfl⟩ rfl rfl rfl rfl rfl (by kernel_rfl) Tryz.func5 (by kernel_rfl)
    (of_decide_eq_true (by kernel_rfl)) (by unfold Func.isWrapper; first | (rw [if_pos (by decide +kernel)]; kernel_rfl) | (rw [if_neg (by decide +kernel)]; exact ⟨rfl, rfl⟩))
    (fun os started H enc _ => lifted os started H enc)

/-- The statement: the tied card. -/
theorem proved : Rows.ViewBlindCardSaid :=
  Claim7.holds_tied_plain_at .later [] [.handle] true _ true
    over (fun _ h => by cases h) (by kernel_rfl) (fun _ h => by cases h) viewBlind_row_tie rfl ⟨rfl, rfl⟩ (by kernel_rfl) rfl
    (fun f fn hf hfn => by
      obtain rfl : f = 5 := Option.some.inj ((show Tryz.prog.funcNamed "locklane/lanelaw4.ViewBlind" = some 5 by kernel_rfl).symm.trans hf) |>.symm
      obtain rfl : fn = Tryz.f5 := (Option.some.inj (Tryz.func5.symm.trans hfn)).symm
      exact ⟨by kernel_rfl, fun j t ht => by
        rw [Tryz.params5] at ht
        have hm : t ∈ [3] := by have := Array.mem_of_getElem? ht; simpa using this
        have hall : ([3].all fun u => !Tryz.prog.wantsStandIn u) = true := by kernel_rfl
        exact (show Tryz.prog.wantsStandIn t = false by simpa using List.all_eq_true.1 hall t hm)⟩)
    (by kernel_rfl)
#print axioms proved
end Go.Proofs.YtkpnpkikonlmpaaGreatDoor.viewBlind

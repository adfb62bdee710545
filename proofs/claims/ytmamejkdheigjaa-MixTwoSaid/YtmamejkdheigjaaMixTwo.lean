
/-
  PROVED: lanelaw4.MixTwo returns true, for all its arguments: of two deals of n and m reads there are as many orders as ways to choose, and all are good. No condition.
-/
import Derived.Test.YtmamejkdheigjaaMX3
import Derived.Test.YtmamejkdheigjaaEnd
import Derived.Test.YtmamejkdheigjaaOpen

namespace Go.Proofs.Ytmamejkdheigjaa.mixTwo
open Go.ChangeShapes Go.WideShapes Go.ChangeAt Go.RowKit Go.Proofs.Ytmamejkdheigjaa

theorem rep_succ (j : Nat) (o : HOp) : cellsH (List.replicate (j + 1) o) = cellsH (List.replicate j o) ++ cellsH [o] := by rw [← cellsH_append, List.replicate_succ']
theorem two_succ (N j : Nat) : cellsH (List.replicate N (⟨1, 1, 1⟩ : HOp) ++ List.replicate (j + 1) ⟨2, 1, 1⟩) = cellsH (List.replicate N (⟨1, 1, 1⟩ : HOp) ++ List.replicate j ⟨2, 1, 1⟩) ++ cellsH [⟨2, 1, 1⟩] := by
  rw [← cellsH_append, List.replicate_succ', List.append_assoc]
set_option maxRecDepth 100000 in
theorem walk_out (n m : Int) (w : World) (h : ¬ (0 ≤ n ∧ 0 ≤ m ∧ n + m ≤ 8)) :
    Calls Try.prog 3 #[.int .i64 n, .int .i64 m] w fun e w' => e = .returned (.bool true) ∧ Below w.heap.size w w' := by
  by_cases h1 : n < 0
  · go_enter Try.func3, Try.ntmps3
    go_wp2
    go_ret
    exact ⟨rfl, Below.refl _ _⟩
  by_cases h2 : m < 0
  · go_enter Try.func3, Try.ntmps3
    go_wp2
    go_ret
    exact ⟨rfl, Below.refl _ _⟩
  by_cases h3 : 8 < n
  · go_enter Try.func3, Try.ntmps3
    go_wp2
    go_ret
    exact ⟨rfl, Below.refl _ _⟩
  have h4 : 8 - n < m := by omega
  have h5 : 0 ≤ n := by omega
  go_enter Try.func3, Try.ntmps3
  go_wp2
  go_ret
  exact ⟨rfl, Below.refl _ _⟩

set_option maxRecDepth 100000 in
set_option maxHeartbeats 2000000 in
theorem walk_in (N M : Nat) (w : World) (hNM : N + M ≤ 8) :
    Calls Try.prog 3 #[.int .i64 N, .int .i64 M] w fun e w' => e = .returned (.bool true) ∧ Below w.heap.size w w' := by
  have k1 : ¬ (N : Int) < 0 := by omega
  have k2 : ¬ (M : Int) < 0 := by omega
  have k3 : ¬ 8 < (N : Int) := by omega
  have k4 : ¬ 8 - (N : Int) < (M : Int) := by omega
  have HTA := Lib.hid (two_all hNM)
  have h9 : ∀ u ∈ cellsH [⟨1, 1, 1⟩], u.oneCell' = true := oneH _
  have h8 : ∀ u ∈ cellsH [⟨2, 1, 1⟩], u.oneCell' = true := oneH _
  go_enter Try.func3, Try.ntmps3
  go_wp2
  go_loopw [5, 6] (fun s5 s6 wr => ∃ j : Nat, j ≤ N ∧ s6 = .int .i64 j ∧ wr.ownsRow w.heap.size 24 3 s5 j (cellsH (List.replicate j ⟨1, 1, 1⟩)) ∧ Below w.heap.size w wr) (fun _ s6 _ => N - (intOf s6).toNat)
  case atStart => exact ⟨0, Nat.zero_le _, rfl, World.ownsRow_nil _ _ _ _, Below.refl _ _⟩
  case round =>
    obtain ⟨j, hj, rfl, ho, hbw⟩ := hrel
    obtain ⟨A1, c1, rfl⟩ := own_slice ho
    have hsz := hbw.size
    by_cases hlt : j < N
    · go_wp2_with (at_builtin; (refine wpList_app rfl (.tmp 35) (.tmp 37) _ rfl w.heap.size slt_op (n := j) (xs := cellsH (List.replicate j ⟨1, 1, 1⟩)) (m := 1) (news := cellsH [⟨1, 1, 1⟩]) rfl (own_alloc ho _) rfl (rd_new' _ _ (cellsH [⟨1, 1, 1⟩]) (by simp) rfl) h9 (by omega) (by simp; omega) ?_; intro v5 w5 hown5 hg5 hb5 hat5 hne5))
      have hbw5 : Below w.heap.size w w5 := (hbw.alloc hsz _).trans hb5
      rw [← rep_succ] at hown5
      go_roundw
      case rel => exact ⟨j + 1, by omega, by go_num, hown5, hbw5⟩
      case measure => simp [intOf]; omega
    · have hjN : j = N := by omega
      subst hjN
      clear hlt
      go_wp2
      go_loopw [5, 7] (fun s5 s7 wx => ∃ i : Nat, i ≤ M ∧ s7 = .int .i64 i ∧ wx.ownsRow w.heap.size 24 3 s5 (j + i) (cellsH (List.replicate j ⟨1, 1, 1⟩ ++ List.replicate i ⟨2, 1, 1⟩)) ∧ Below w.heap.size w wx) (fun _ s7 _ => M - (intOf s7).toNat)
      case atStart => exact ⟨0, Nat.zero_le _, rfl, by simpa using ho, hbw⟩
      case round =>
        clear ho hbw hsz
        obtain ⟨i, hi, rfl, ho, hbw⟩ := hrel
        obtain ⟨A1, c1, rfl⟩ := own_slice ho
        have hsz := hbw.size
        by_cases hlt : i < M
        · go_wp2_with (at_builtin; (refine wpList_app rfl (.tmp 44) (.tmp 46) _ rfl w.heap.size slt_op (n := j + i) (xs := cellsH (List.replicate j ⟨1, 1, 1⟩ ++ List.replicate i ⟨2, 1, 1⟩)) (m := 1) (news := cellsH [⟨2, 1, 1⟩]) rfl (own_alloc ho _) rfl (rd_new' _ _ (cellsH [⟨2, 1, 1⟩]) (by simp) rfl) h8 (by omega) (by simp; omega) ?_; intro v5 w5 hown5 hg5 hb5 hat5 hne5))
          have hbw5 : Below w.heap.size w w5 := (hbw.alloc hsz _).trans hb5
          rw [← two_succ] at hown5
          go_roundw
          case rel => exact ⟨i + 1, by omega, by go_num, hown5, hbw5⟩
          case measure => simp [intOf]; omega
        · have hiM : i = M := by omega
          subst hiM
          clear hlt
          have hrd := rd_own ho
          have HRD := hide (fun w' (hb : Below wr.heap.size wr w') => (hrd.below hb).more hb.size)
          go_wp2
          go_loopw [8, 9] (fun s8 s9 wy => ∃ p : Nat, p ≤ j ∧ s9 = .int .i64 ((p : Int) + 1) ∧ s8 = .int .i64 (wantM i p) ∧ wy = wr) (fun _ s9 _ => j + 1 - (intOf s9).toNat)
          case atStart => exact ⟨0, Nat.zero_le _, rfl, rfl, rfl⟩
          case round =>
            obtain ⟨p, hp, rfl, rfl, rfl⟩ := hrel
            by_cases hlt : p < j
            · obtain ⟨q1, q2, q3⟩ := want_step (M := i) (j := p) (by omega) (by omega)
              have hlt2 : (p : Int) + 1 ≤ (j : Int) := by omega
              have hmul1 : 0 ≤ wantM i p * ((i : Int) + (p + 1)) := Int.mul_nonneg q2 (by omega)
              have hmul2 : wantM i p * ((i : Int) + (p + 1)) ≤ 20000 * 20 := Int.mul_le_mul q3 (by omega) (by omega) (by omega)
              have HWV : Hid (wantM i p * ((i : Int) + (p + 1)) / (p + 1) = wantM i (p + 1)) := Lib.hid rfl
              clear q1
              generalize wantM i p = wv at *
              go_wp2
              go_roundw
              case rel => exact ⟨p + 1, by omega, by go_num, by rw [HWV.out], trivial⟩
              case measure => simp [intOf]; omega
            · have hpj : p = j := by omega
              subst hpj
              have C1 := hide (fun w' (hb : Below wr.heap.size wr w') => count_ok A1 (p + i) c1 (twoM p i) w' (unhide HRD w' hb) HTA.out.1 (by omega))
              have C2 := hide (fun w' (hb : Below wr.heap.size wr w') => good_ok A1 (p + i) c1 (twoM p i) w' (unhide HRD w' hb) HTA.out.1 (by omega))
              rw [HTA.out.2.1] at C1
              rw [HTA.out.2.2] at C2
              generalize wantM (i : Int) p = wv at *
              clear ho hrd HRD HTA
              go_wp2_with fail
              refine (unhide C1 _ (Below.refl _ _)).mono ?_
              rintro e w1 ⟨rfl, hb1⟩
              go_wp2_with fail
              refine (unhide C2 _ hb1).mono ?_
              rintro e w2 ⟨rfl, hb2⟩
              have hbw2 := (hbw.trans (hb1.mono hbw.size)).trans (hb2.mono (Nat.le_trans hbw.size hb1.size))
              go_wp2
              go_ret
              exact ⟨by simp, hbw2⟩
theorem walk (n m : Int) (w : World) : Calls Try.prog 3 #[.int .i64 n, .int .i64 m] w fun e w' => e = .returned (.bool true) ∧ Below w.heap.size w w' := by
  by_cases h : 0 ≤ n ∧ 0 ≤ m ∧ n + m ≤ 8
  · obtain ⟨N, rfl⟩ := Int.eq_ofNat_of_zero_le h.1
    obtain ⟨M, rfl⟩ := Int.eq_ofNat_of_zero_le h.2.1
    exact walk_in N M w (by omega)
  · exact walk_out n m w h

theorem own : ownKnob Try.prog.godebug = none := by kernel_rfl

/-! ### The row. -/
set_option maxRecDepth 100000 in
theorem lifted (os : Os) (started : os.Started) (H : Type) (enc : TypeId × Value → H) :
    ReturnsInHanded {} Try.checked os 3 .any (Rows.mixTwoSpec.pre6 enc Try.prog Try.f3 Rows.mixTwoRow.domain false) (Rows.mixTwoSpec.post enc Try.prog Try.f3 false true false false) := by
  refine returnsInHanded_of_change_sized (C := Try.checked) own started (by kernel_rfl) Try.func3
    (ChangeSpec.witness6 (enc := enc) (C := Try.checked) false ⟨#[], #[.int .i64 0, .int .i64 0], []⟩ 8 (by kernel_rfl) (by kernel_rfl) (by kernel_rfl) (by kernel_rfl)) ?_
  intro W base args ds gs before hval0 hW hcnd hsz0 _
  have hval : ∀ (j : Nat) t v, Try.f3.params[j]? = some t → args[j]? = some v → Value.okWide Try.prog W .any base t v := hval0
  have hW' := hW
  obtain ⟨p, q, hA0, hV, rfl, hfz, hnd⟩ := hW
  have hA : DataW.TrodAll enc Try.prog W 0 (fun _ => true) true Try.f3.params.toList args.toList ds p := hA0
  rw [Try.params3] at hA hval
  obtain ⟨v0, vs0, d0, ds0, p0, q0, hargs, rfl, rfl, h0, r0⟩ := trodAll_cons hA
  obtain ⟨v1, vs1, d1, ds1, p1, q1, rfl, rfl, rfl, h1, r1⟩ := trodAll_cons r0
  obtain ⟨rfl, rfl, rfl⟩ := trodAll_nil r1
  obtain rfl : args = #[v0, v1] := by cases args; simp_all
  obtain ⟨rfl, rfl⟩ := trodVars_none hV
  simp only [List.append_nil] at hW'
  obtain ⟨a0, rfl, rfl, rfl, w0⟩ := open_int Try.underlying3 (hval 0 3 v0 rfl rfl) h0
  obtain ⟨a1, rfl, rfl, rfl, w1⟩ := open_int Try.underlying3 (hval 1 3 v1 rfl rfl) h1
  clear hA0 hval0
  refine (walk a0 a1 W ).mono fun e W' ⟨he, hg⟩ => ?_
  subst he
  exact ⟨_, rfl, post_slices (pa := _) (pv := []) hW' hg (by simp) (fun _ _ _ => (trodAll_cons_mk (shut_bool Try.underlying4 _) trodAll_mk0)) (trodAll_cons_mk (shut_int Try.underlying3 w0) (trodAll_cons_mk (shut_int Try.underlying3 w1) trodAll_mk0)) rfl⟩

theorem over : Rows.mixTwoRow.holds Try.pinned (OpenSpec.ofChange Rows.mixTwoSpec) :=
  OpenClaim.holds_of_wide 3 Try.f3 rfl rfl rfl rfl rfl rfl rfl ⟨rfl, rfl, rfl, rfl, rfl⟩ rfl rfl rfl rfl rfl (by kernel_rfl) Try.func3 (by kernel_rfl)
    (of_decide_eq_true (by kernel_rfl)) (by unfold Func.isWrapper; first | (rw [if_pos (by decide +kernel)]; kernel_rfl) | (rw [if_neg (by decide +kernel)]; exact ⟨rfl, rfl⟩))
    (fun os started H enc _ => lifted os started H enc)

/-- The statement. -/
theorem proved : Rows.MixTwoSaid :=
  over
#print axioms proved
end Go.Proofs.Ytmamejkdheigjaa.mixTwo


/-
  PROVED: lanelaw4.LocksTogether returns true, for every two numbers: shared locks are all held; one alone waits for all, and who comes behind it waits for it. No condition beyond the form's own reach.
-/
import Derived.Test.YtfmdeahblaikoaaLFor
import Derived.Test.YtfmdeahblaikoaaOpen

namespace Go.Proofs.Ytfmdeahblaikoaa.locksTogether
open Go.ChangeShapes Go.WideShapes Go.ChangeAt Go.RowKit Go.Proofs.Ytfmdeahblaikoaa

/-- Shared locks of the deals 1 to k. -/
def shL (item : Int) (k : Nat) : List HOp := (List.range k).map fun (i : Nat) => ⟨(i : Int) + 1, item, 1⟩
def x5 (item : Int) : HOp := ⟨5, item, 2⟩
def x6 (item : Int) : HOp := ⟨6, item, 1⟩
theorem tog1 : ∀ (i : Fin 6) (k : Fin 4), askF ⟨shL ((i.val : Int) + 1) k.val, []⟩ ⟨(k.val : Int) + 1, (i.val : Int) + 1, 1⟩ = (true, 0, ⟨shL ((i.val : Int) + 1) (k.val + 1), []⟩) := by decide +kernel
theorem tog2 : ∀ (i : Fin 6) (k : Fin 4), askF ⟨shL ((i.val : Int) + 1) (k.val + 1), []⟩ (x5 ((i.val : Int) + 1)) = (false, 0, ⟨shL ((i.val : Int) + 1) (k.val + 1), [x5 ((i.val : Int) + 1)]⟩) ∧
    askF ⟨shL ((i.val : Int) + 1) (k.val + 1), [x5 ((i.val : Int) + 1)]⟩ (x6 ((i.val : Int) + 1)) = (false, 0, ⟨shL ((i.val : Int) + 1) (k.val + 1), [x5 ((i.val : Int) + 1), x6 ((i.val : Int) + 1)]⟩) ∧
    (forF ⟨shL ((i.val : Int) + 1) (k.val + 1), [x5 ((i.val : Int) + 1), x6 ((i.val : Int) + 1)]⟩ (x5 ((i.val : Int) + 1))).length = k.val + 1 ∧
    forF ⟨shL ((i.val : Int) + 1) (k.val + 1), [x5 ((i.val : Int) + 1), x6 ((i.val : Int) + 1)]⟩ (x6 ((i.val : Int) + 1)) = [5] ∧ lrightB (x5 ((i.val : Int) + 1)) = true ∧ lrightB (x6 ((i.val : Int) + 1)) = true := by decide +kernel
theorem fin6 {x : Int} (h1 : 1 ≤ x) (h2 : x ≤ 6) : ∃ i : Fin 6, x = (i.val : Int) + 1 := ⟨⟨(x - 1).toNat, by omega⟩, by show x = ((x - 1).toNat : Int) + 1; omega⟩
theorem tog_ask {x : Int} (h1 : 1 ≤ x) (h2 : x ≤ 6) {k : Nat} (hk : k < 4) : askF ⟨shL x k, []⟩ ⟨(k : Int) + 1, x, 1⟩ = (true, 0, ⟨shL x (k + 1), []⟩) := by
  obtain ⟨i, rfl⟩ := fin6 h1 h2
  exact tog1 i ⟨k, hk⟩
theorem tog_end {x : Int} (h1 : 1 ≤ x) (h2 : x ≤ 6) {n : Nat} (hn1 : 1 ≤ n) (hn : n ≤ 4) : askF ⟨shL x n, []⟩ (x5 x) = (false, 0, ⟨shL x n, [x5 x]⟩) ∧ askF ⟨shL x n, [x5 x]⟩ (x6 x) = (false, 0, ⟨shL x n, [x5 x, x6 x]⟩) ∧
    (forF ⟨shL x n, [x5 x, x6 x]⟩ (x5 x)).length = n ∧ forF ⟨shL x n, [x5 x, x6 x]⟩ (x6 x) = [5] ∧ lrightB (x5 x) = true ∧ lrightB (x6 x) = true := by
  obtain ⟨i, rfl⟩ := fin6 h1 h2
  have := tog2 i ⟨n - 1, by omega⟩
  have e : n - 1 + 1 = n := by omega
  simp only [e] at this
  exact this
theorem kept_below {w w' : World} {lo g : Nat} {v1 v2 v1' v2' : Value} {H W : List HOp} (T : Tab w lo g v1 v2 H W) (h : Kept w w' g v1 v2 v1' v2') (hlo : lo ≤ w.heap.size) : Below lo w w' :=
  h.1.below (fun k hk => by
    rcases hk with rfl | hk | hk
    · exact T.lo
    · exact (T.held.lt k hk).1
    · exact (T.waits.lt k hk).1) hlo

set_option maxRecDepth 100000 in
set_option maxHeartbeats 2000000 in
theorem walk_in (n : Nat) (x : Int) (w : World) (hn1 : 1 ≤ n) (hn4 : n ≤ 4) (hx1 : 1 ≤ x) (hx6 : x ≤ 6) :
    Calls Try.prog 3 #[.int .i64 n, .int .i64 x] w fun e w' => e = .returned (.bool true) ∧ Below w.heap.size w w' := by
  have HASK := Lib.hid (fun k (hk : k < 4) => tog_ask hx1 hx6 (k := k) hk)
  have HEND := Lib.hid (tog_end hx1 hx6 hn1 hn4)
  have g1 : ¬ (n : Int) < 1 := by omega
  have g2 : ¬ (4 : Int) < n := by omega
  have g3 : ¬ x < 1 := by omega
  have g4 : ¬ 6 < x := by omega
  go_enter Try.func3, Try.ntmps3
  go_wp2_with (go_at_call 5; refine (lnew_any _).mono ?_; rintro e w1 ⟨rfl, hT1, hb1⟩)
  generalize hg : w.heap.size = g at *
  go_loopw [6] (fun s6 wr => ∃ (k : Nat) (v1 v2 : Value), k ≤ n ∧ s6 = .int .i64 ((k : Int) + 1) ∧ Tab wr g g v1 v2 (shL x k) [] ∧ LInv ⟨shL x k, []⟩ ∧ Below g w wr) (fun s6 _ => n + 1 - (intOf s6).toNat)
  case atStart => exact ⟨0, _, _, Nat.zero_le _, rfl, hT1, linv0, hb1⟩
  case round =>
    clear hT1 hb1
    obtain ⟨k, v1, v2, hk, rfl, hT, hI, hbw⟩ := hrel
    have hgz := hbw.size
    have hsl : (shL x k).length ≤ 1000000 := by simp [shL]; omega
    by_cases hlt : k < n
    · have CA := hide (ask_any g g v1 v2 (shL x k) [] ⟨(k : Int) + 1, x, 1⟩ wr hT hsl (by simp) (by omega) hI.apart)
      have hI2 := ask_inv hI ⟨(k : Int) + 1, x, 1⟩
      rw [HASK.out k (by omega)] at CA hI2
      simp only at CA hI2
      rw [show errV 0 = .nilIface from rfl] at CA
      unfold HOp.val at CA
      have q1 : (k : Int) + 1 ≤ (n : Int) := by omega
      go_wp2_with fail
      refine (unhide CA).mono ?_
      rintro e w2 ⟨v1', v2', rfl, hT2, hK2⟩
      have hbw2 := hbw.trans (kept_below hT hK2 (by omega))
      clear CA hT hK2
      go_wp2
      go_roundw
      case rel => exact ⟨k + 1, v1', v2', by omega, by go_num, hT2, hI2, hbw2⟩
      case measure => simp [intOf]; omega
    · obtain rfl : k = n := by omega
      have q1 : ¬ (k : Int) + 1 ≤ (k : Int) := by omega
      have CA := hide (ask_any g g v1 v2 (shL x k) [] (x5 x) wr hT hsl (by simp) (by omega) hI.apart)
      have hI2 := ask_inv hI (x5 x)
      rw [HEND.out.1] at CA hI2
      simp only at CA hI2
      rw [show errV 0 = .nilIface from rfl] at CA
      unfold HOp.val x5 at CA
      go_wp2_with fail
      refine (unhide CA).mono ?_
      rintro e w2 ⟨v1', v2', rfl, hT2, hK2⟩
      have hbw2 := hbw.trans (kept_below hT hK2 (by omega))
      have CB := hide (ask_any g g v1' v2' (shL x k) [x5 x] (x6 x) w2 hT2 hsl (by simp) (by have := hbw2.size; omega) hI2.apart)
      rw [HEND.out.2.1] at CB
      simp only at CB
      rw [show errV 0 = .nilIface from rfl] at CB
      unfold HOp.val x6 at CB
      clear CA hT hK2 hbw
      go_wp2_with fail
      refine (unhide CB).mono ?_
      rintro e w3 ⟨v1'', v2'', rfl, hT3, hK3⟩
      have hbw3 := hbw2.trans (kept_below hT2 hK3 (by have := hbw2.size; omega))
      have CF := hide (lfor_walk g g v1'' v2'' (shL x k) [x5 x, x6 x] (x5 x) w3 hT3 (by simp [shL]; omega) (by simp) HEND.out.2.2.2.2.1)
      rw [HEND.out.2.2.1] at CF
      have HF5 := Lib.hid HEND.out.2.2.1
      generalize forF ⟨shL x k, [x5 x, x6 x]⟩ (x5 x) = f5 at *
      have CE := hide (fun w4 (hb : Below w3.heap.size w3 w4) => lfor_walk g g v1'' v2'' (shL x k) [x5 x, x6 x] (x6 x) w4 (hT3.below hb) (by simp [shL]; omega) (by simp) HEND.out.2.2.2.2.2)
      rw [HEND.out.2.2.2.1] at CE
      unfold HOp.val x5 at CF
      unfold HOp.val x6 at CE
      simp only at CF CE
      clear CB hT2 hK3 hbw2
      go_wp2_with fail
      refine (unhide CF).mono ?_
      rintro e w4 ⟨v4, rfl, ho4, hb4⟩
      have hbw4 := hbw3.trans (hb4.mono (by have := hbw3.size; omega))
      obtain ⟨A4, c4, rfl⟩ := own_slice ho4
      clear ho4 CF
      go_wp2_with fail
      refine (unhide CE w4 hb4).mono ?_
      rintro e w5 ⟨v5, rfl, ho5, hb5⟩
      have hbw5 := hbw4.trans (hb5.mono (by have := hbw4.size; omega))
      obtain ⟨A5, c5, rfl⟩ := own_slice ho5
      obtain ⟨b, off, y, he, hb, hy, d0⟩ := (rd_own ho5).int (k := 0) (by simp)
      cases he
      obtain rfl : y = 5 := by simpa using hy.symm
      rw [Nat.add_zero] at d0
      clear ho5 CE hy
      go_wp2
      go_ret
      exact ⟨rfl, by rw [hg]; exact hbw5⟩
theorem walk (n x : Int) (w : World) :
    Calls Try.prog 3 #[.int .i64 n, .int .i64 x] w fun e w' => e = .returned (.bool true) ∧ Below w.heap.size w w' := by
  by_cases h1 : n < 1
  · go_enter Try.func3, Try.ntmps3
    go_wp2
    go_ret
    exact ⟨rfl, Below.refl _ _⟩
  by_cases h2 : 4 < n
  · go_enter Try.func3, Try.ntmps3
    go_wp2
    go_ret
    exact ⟨rfl, Below.refl _ _⟩
  by_cases h3 : x < 1
  · go_enter Try.func3, Try.ntmps3
    go_wp2
    go_ret
    exact ⟨rfl, Below.refl _ _⟩
  by_cases h4 : 6 < x
  · go_enter Try.func3, Try.ntmps3
    go_wp2
    go_ret
    exact ⟨rfl, Below.refl _ _⟩
  obtain ⟨N, rfl⟩ := Int.eq_ofNat_of_zero_le (show 0 ≤ n by omega)
  exact walk_in N x w (by omega) (by omega) (by omega) (by omega)

theorem own : ownKnob Try.prog.godebug = none := by kernel_rfl

/-! ### The row. -/
set_option maxRecDepth 100000 in
theorem lifted (os : Os) (started : os.Started) (H : Type) (enc : TypeId × Value → H) :
    ReturnsInHanded {} Try.checked os 3 .any (Rows.locksTogetherSpec.pre6 enc Try.prog Try.f3 Rows.locksTogetherRow.domain false) (Rows.locksTogetherSpec.post enc Try.prog Try.f3 false true false false) := by
  refine returnsInHanded_of_change_sized (C := Try.checked) own started (by kernel_rfl) Try.func3
    (ChangeSpec.witness6 (enc := enc) (C := Try.checked) false ⟨#[], #[.int .i64 0, .int .i64 0], []⟩ 8 (by kernel_rfl) (by kernel_rfl) (by kernel_rfl) (by kernel_rfl)) ?_
  intro W base args ds gs before hval0 hW hcnd hsz0 _
  have hval : ∀ (j : Nat) t v, Try.f3.params[j]? = some t → args[j]? = some v → Value.okWide Try.prog W .any base t v := hval0
  have hW' := hW
  obtain ⟨p, q, hA0, hV, rfl, hfz, hnd⟩ := hW
  have hA : DataW.TrodAll enc Try.prog W 0 (fun _ => true) true Try.f3.params.toList args.toList ds p := hA0
  rw [Try.params3] at hA hval
  obtain ⟨v0, vs0, d0, ds0, p0, q0, hargs, rfl, rfl, h0, r0⟩ := trodAll_cons hA
  obtain ⟨v1, vs1, d1, ds1, p1, q1, rfl, rfl, rfl, h1, r1⟩ := trodAll_cons r0
  obtain ⟨rfl, rfl, rfl⟩ := trodAll_nil r1
  obtain rfl : args = #[v0, v1] := by cases args; simp_all
  obtain ⟨rfl, rfl⟩ := trodVars_none hV
  simp only [List.append_nil] at hW'
  obtain ⟨a0, rfl, rfl, rfl, w0⟩ := open_int Try.underlying3 (hval 0 3 v0 rfl rfl) h0
  obtain ⟨a1, rfl, rfl, rfl, w1⟩ := open_int Try.underlying3 (hval 1 3 v1 rfl rfl) h1
  clear hA0 hval0
  refine (walk a0 a1 W ).mono fun e W' ⟨he, hg⟩ => ?_
  subst he
  exact ⟨_, rfl, post_slices (pa := _) (pv := []) hW' hg (by simp) (fun _ _ _ => (trodAll_cons_mk (shut_bool Try.underlying4 _) trodAll_mk0)) (trodAll_cons_mk (shut_int Try.underlying3 w0) (trodAll_cons_mk (shut_int Try.underlying3 w1) trodAll_mk0)) rfl⟩

theorem over : Rows.locksTogetherRow.holds Try.pinned (OpenSpec.ofChange Rows.locksTogetherSpec) :=
  OpenClaim.holds_of_wide 3 Try.f3 rfl rfl rfl rfl rfl rfl rfl ⟨rfl, rfl, rfl, rfl, rfl⟩ rfl rfl rfl rfl rfl (by kernel_rfl) Try.func3 (by kernel_rfl)
    (of_decide_eq_true (by kernel_rfl)) (by unfold Func.isWrapper; first | (rw [if_pos (by decide +kernel)]; kernel_rfl) | (rw [if_neg (by decide +kernel)]; exact ⟨rfl, rfl⟩))
    (fun os started H enc _ => lifted os started H enc)

/-- The statement. -/
theorem proved : Rows.LocksTogetherSaid :=
  over
#print axioms proved
end Go.Proofs.Ytfmdeahblaikoaa.locksTogether

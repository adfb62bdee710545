/-
  PROVED: lanelaw4.StockTakes returns true, for all its arguments: of deals that each ask for so much as many may as there is enough for. No condition.
-/
import Derived.Test.YtaeckfhmmckopaaStock
import Derived.Test.YtaeckfhmmckopaaOpen
namespace Go.Proofs.Ytaeckfhmmckopaa.stockTakes
open Go.ChangeShapes Go.WideShapes Go.ChangeAt Go.RowKit Go.Proofs.Ytaeckfhmmckopaa

theorem getL_none {m : StM} {k : Int} (h : ∀ p ∈ m, p.1 < k) : getL m k = none := by
  induction m with
  | nil => rfl
  | cons p t ih =>
    have := h p (by simp)
    unfold getL
    rw [if_neg (by omega)]
    exact ih fun q hq => h q (by simp [hq])
theorem putL_new {m : StM} {k : Int} (h : ∀ p ∈ m, p.1 < k) (v : Int × Int) : putL m k v = m ++ [(k, v)] := by
  induction m with
  | nil => rfl
  | cons p t ih =>
    have := h p (by simp)
    unfold putL
    rw [if_neg (by omega), ih fun q hq => h q (by simp [hq])]
    rfl
theorem sumA_app (a b : StM) : sumA (a ++ b) = sumA a + sumA b := by
  induction a with
  | nil => simp [sumA]
  | cons p t ih => simp only [List.cons_append, sumA, ih]; omega
theorem sumT_app (a b : StM) : sumT (a ++ b) = sumT a + sumT b := by
  induction a with
  | nil => simp [sumT]
  | cons p t ih => simp only [List.cons_append, sumT, ih]; omega

set_option maxRecDepth 100000 in
set_option maxHeartbeats 4000000 in
theorem walk (n each : Int) (w : World) :
    Calls Try.prog 4 #[.int .i64 n, .int .i64 each] w fun e w' => e = .returned (.bool true) ∧ Below w.heap.size w w' := by
  by_cases hn0 : n < 0
  · go_enter Try.func4, Try.ntmps4
    go_wp2_with (go_at_call 17; refine (new_bad _ _ (.inl hn0)).mono ?_; rintro e w' ⟨rfl, rfl⟩)
    go_ret
    exact ⟨rfl, Below.refl _ _⟩
  by_cases hn1 : 1000000 < n
  · go_enter Try.func4, Try.ntmps4
    go_wp2_with (go_at_call 17; refine (new_bad _ _ (.inr hn1)).mono ?_; rintro e w' ⟨rfl, rfl⟩)
    go_ret
    exact ⟨rfl, Below.refl _ _⟩
  have CN := hide (new_ok n w (by omega) (by omega))
  by_cases he0 : each < 1
  · go_enter Try.func4, Try.ntmps4
    go_wp2_with (first
      | (go_at_call 17; refine (unhide CN).mono ?_; rintro e w1 ⟨rfl, hst, hb⟩)
      | (go_at_call 18; refine (now_any _ _ _ _ _ hst).mono ?_; rintro e w' ⟨rfl, rfl⟩))
    go_ret
    exact ⟨rfl, hb⟩
  by_cases he1 : 1000000 < each
  · go_enter Try.func4, Try.ntmps4
    go_wp2_with (first
      | (go_at_call 17; refine (unhide CN).mono ?_; rintro e w1 ⟨rfl, hst, hb⟩)
      | (go_at_call 18; refine (now_any _ _ _ _ _ hst).mono ?_; rintro e w' ⟨rfl, rfl⟩))
    go_ret
    exact ⟨rfl, hb⟩
  go_enter Try.func4, Try.ntmps4
  go_wp2_with (go_at_call 17; refine (unhide CN).mono ?_; rintro e w1 ⟨rfl, hst, hb⟩)
  go_loopw [7, 8] (fun s7 s8 wr => ∃ (tx many : Nat) (m : StM), 1 ≤ tx ∧ tx ≤ 7 ∧ many < tx ∧ s7 = .int .i64 many ∧ s8 = .int .i64 tx ∧ StW wr (w.heap.size + 1) w.heap.size n m ∧ Hid (StOk n m ∧ (∀ p ∈ m, p.1 < tx) ∧ sumA m = 0 ∧ sumT m = many * each ∧ many * each ≤ n) ∧ Below w.heap.size w wr)
    (fun _ s8 _ => 7 - (intOf s8).toNat)
  case atStart => exact ⟨1, 0, [], by omega, by omega, by omega, rfl, rfl, hst, ⟨⟨by simp, by simp [sumT]; omega, by simp [sumA]; omega⟩, by simp, rfl, by simp [sumT], by simp; omega⟩, hb⟩
  case round =>
    obtain ⟨tx, many, m, h1, h7, hmt, rfl, rfl, hstr, HI, hbw⟩ := hrel
    obtain ⟨hok, hkeys, hA, hT, hle⟩ := HI.out
    have hM0 : 0 ≤ (many : Int) * each := Int.mul_nonneg (by omega) (by omega)
    have hM1 : ((many : Int) + 1) * each = many * each + each := by rw [Int.add_mul, Int.one_mul]
    by_cases hlt : tx ≤ 6
    · have hTx : txB (tx : Int) = true := by simp [txB]; omega
      have hg := getL_none hkeys
      by_cases hyes : (many : Int) * each + each ≤ n
      · have hY := ask_yes (w.heap.size + 1) w.heap.size n m tx (-each) wr w.heap.size hstr hok (Nat.le_refl _) hbw.size hTx (by omega) (by omega) (by omega) (by rw [hT]; omega) (by rw [hA]; omega)
        rw [hg] at hY
        have e1 : max (-each) 0 = 0 := by omega
        have e2 : max (- -each) 0 = each := by omega
        simp only [Option.getD_none] at hY
        rw [e1, e2, putL_new hkeys] at hY
        have HY := hide hY
        have HI2 : Hid (StOk n (m ++ [((tx : Int), ((0 : Int) + 0, (0 : Int) + each))]) ∧ (∀ p ∈ m ++ [((tx : Int), ((0 : Int) + 0, (0 : Int) + each))], p.1 < (tx + 1 : Nat)) ∧ sumA (m ++ [((tx : Int), ((0 : Int) + 0, (0 : Int) + each))]) = 0 ∧ sumT (m ++ [((tx : Int), ((0 : Int) + 0, (0 : Int) + each))]) = (many + 1 : Nat) * each ∧ (many + 1 : Nat) * each ≤ n) := Lib.hid (by
          refine ⟨⟨fun p hp => ?_, ?_, ?_⟩, fun p hp => ?_, ?_, ?_, ?_⟩
          · rcases List.mem_append.1 hp with h | h
            · exact hok.pos p h
            · rw [List.mem_singleton.1 h]; simp; omega
          · rw [sumT_app, hT]; simp [sumT]; omega
          · rw [sumA_app, hA]; simp [sumA]; omega
          · rcases List.mem_append.1 hp with h | h
            · have := hkeys p h; omega
            · rw [List.mem_singleton.1 h]; simp; omega
          · rw [sumA_app, hA]; simp [sumA]
          · rw [sumT_app, hT]; simp [sumT]; omega
          · push_cast; omega)
        have hc : ((many : Int) + 1) * each ≤ n := by omega
        have hc0 : 0 ≤ ((many : Int) + 1) * each := by omega
        clear hY hok hkeys hA hT hle HI hg hM1 e1 e2
        go_wp2_with (go_at_call 19; refine (unhide HY).mono ?_; rintro e w2 ⟨rfl, hst2, hb2⟩)
        go_roundw
        case rel => exact ⟨tx + 1, many + 1, _, by omega, by omega, by omega, by go_num, by go_num, hst2, HI2, hbw.trans hb2⟩
        case measure => simp [intOf]; omega
      · have hY := ask_no (w.heap.size + 1) w.heap.size n m tx (-each) wr hstr hok hTx (by omega) (by omega) (by omega) (.inl (by rw [hT]; omega))
        have HY := hide hY
        have HI2 : Hid (StOk n m ∧ (∀ p ∈ m, p.1 < (tx + 1 : Nat)) ∧ sumA m = 0 ∧ sumT m = many * each ∧ many * each ≤ n) := Lib.hid ⟨hok, fun p hp => by have := hkeys p hp; omega, hA, hT, hle⟩
        have hc : ¬ ((many : Int) + 1) * each ≤ n := by omega
        have hc0 : 0 ≤ ((many : Int) + 1) * each := by omega
        have hc1 : ((many : Int) + 1) * each ≤ 7000000 := by omega
        clear hY hok hkeys hA hT hle HI hg hM1
        go_wp2_with (go_at_call 19; refine (unhide HY).mono ?_; rintro e w2 ⟨rfl, hb2⟩)
        go_roundw
        case rel => exact ⟨tx + 1, many, m, by omega, by omega, by omega, rfl, by go_num, hstr.grown hb2, HI2, hbw.trans (hb2.mono hbw.size)⟩
        case measure => simp [intOf]; omega
    · have HR := hide (range_any (w.heap.size + 1) w.heap.size n m wr hstr hok)
      rw [hA, hT] at HR
      clear hok hkeys hA hT HI hM1
      go_wp2_with (go_at_call 20; refine (unhide HR).mono ?_; rintro e w2 ⟨rfl, hb2⟩)
      go_ret
      exact ⟨rfl, hbw.trans (hb2.mono hbw.size)⟩

theorem own : ownKnob Try.prog.godebug = none := by kernel_rfl

/-! ### The row. -/
set_option maxRecDepth 100000 in
theorem lifted (os : Os) (started : os.Started) (H : Type) (enc : TypeId × Value → H) :
    ReturnsInHanded {} Try.checked os 4 .any (Rows.stockTakesSpec.pre6 enc Try.prog Try.f4 Rows.stockTakesRow.domain false) (Rows.stockTakesSpec.post enc Try.prog Try.f4 false true false false) := by
  refine returnsInHanded_of_change_sized (C := Try.checked) own started (by kernel_rfl) Try.func4
    (ChangeSpec.witness6 (enc := enc) (C := Try.checked) false ⟨#[], #[.int .i64 0, .int .i64 0], []⟩ 8 (by kernel_rfl) (by kernel_rfl) (by kernel_rfl) (by kernel_rfl)) ?_
  intro W base args ds gs before hval0 hW hcnd hsz0 _
  have hval : ∀ (j : Nat) t v, Try.f4.params[j]? = some t → args[j]? = some v → Value.okWide Try.prog W .any base t v := hval0
  have hW' := hW
  obtain ⟨p, q, hA0, hV, rfl, hfz, hnd⟩ := hW
  have hA : DataW.TrodAll enc Try.prog W 0 (fun _ => true) true Try.f4.params.toList args.toList ds p := hA0
  rw [Try.params4] at hA hval
  obtain ⟨v0, vs0, d0, ds0, p0, q0, hargs, rfl, rfl, h0, r0⟩ := trodAll_cons hA
  obtain ⟨v1, vs1, d1, ds1, p1, q1, rfl, rfl, rfl, h1, r1⟩ := trodAll_cons r0
  obtain ⟨rfl, rfl, rfl⟩ := trodAll_nil r1
  obtain rfl : args = #[v0, v1] := by cases args; simp_all
  obtain ⟨rfl, rfl⟩ := trodVars_none hV
  simp only [List.append_nil] at hW'
  obtain ⟨a0, rfl, rfl, rfl, w0⟩ := open_int Try.underlying3 (hval 0 3 v0 rfl rfl) h0
  obtain ⟨a1, rfl, rfl, rfl, w1⟩ := open_int Try.underlying3 (hval 1 3 v1 rfl rfl) h1
  clear hA0 hval0
  refine (walk a0 a1 W ).mono fun e W' ⟨he, hg⟩ => ?_
  subst he
  exact ⟨_, rfl, post_slices (pa := _) (pv := []) hW' hg (by simp) (fun _ _ _ => (trodAll_cons_mk (shut_bool Try.underlying4 _) trodAll_mk0)) (trodAll_cons_mk (shut_int Try.underlying3 w0) (trodAll_cons_mk (shut_int Try.underlying3 w1) trodAll_mk0)) rfl⟩

theorem over : Rows.stockTakesRow.holds Try.pinned (OpenSpec.ofChange Rows.stockTakesSpec) :=
  OpenClaim.holds_of_wide 4 Try.f4 rfl rfl rfl rfl rfl rfl rfl ⟨rfl, rfl, rfl, rfl, rfl⟩ rfl rfl rfl rfl rfl (by kernel_rfl) Try.func4 (by kernel_rfl)
    (of_decide_eq_true (by kernel_rfl)) (by unfold Func.isWrapper; first | (rw [if_pos (by decide +kernel)]; kernel_rfl) | (rw [if_neg (by decide +kernel)]; exact ⟨rfl, rfl⟩))
    (fun os started H enc _ => lifted os started H enc)

/-- The statement. -/
theorem proved : Rows.StockTakesSaid :=
  over
#print axioms proved

end Go.Proofs.Ytaeckfhmmckopaa.stockTakes

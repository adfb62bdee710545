/-
  PROVED: lanelaw1.PlayDone returns true, for every list of ops: without those that did not commit a history comes to the same, and its reads read the same; items that nobody wrote are 0. No condition beyond the form's own reach.
-/
import Derived.Test.YtaeckfhmmckopaaDone2
import Derived.Test.YtaeckfhmmckopaaSame
import Derived.Test.YtaeckfhmmckopaaOpen
namespace Go.Proofs.Ytaeckfhmmckopaa.playDone
open Go.ChangeShapes Go.WideShapes Go.ChangeAt Go.RowKit Go.Proofs.Ytaeckfhmmckopaa

/-! ### The plain law. -/
theorem both (l : List HOp) (ht : ∀ o ∈ l, rightB o = true) : ∀ (i : Int) (last vs seen : List Int) (out ds : List (Int × Int)), last.length = 6 → vs.length = 6 → (∀ j, last.getD j 0 = 0 → vs.getD j 0 = 0) → (∀ v ∈ vs, 0 ≤ v ∧ v < 1000003) →
    (lookGo i last out l).2.length = 6 ∧ (playGo vs seen ds l).1.length = 6 ∧ (∀ j, (lookGo i last out l).2.getD j 0 = 0 → (playGo vs seen ds l).1.getD j 0 = 0) ∧ ∀ v ∈ (playGo vs seen ds l).1, 0 ≤ v ∧ v < 1000003 := by
  induction l with
  | nil => intro i last vs seen out ds h1 h2 h3 h4; exact ⟨h1, h2, h3, h4⟩
  | cons o r ih =>
    intro i last vs seen out ds h1 h2 h3 h4
    have hr : ∀ o ∈ r, rightB o = true := fun x hx => ht x (by simp [hx])
    obtain ⟨t1, t2, _, _, t3, _⟩ := rightB_get (ht o (by simp))
    unfold lookGo playGo
    by_cases hw1 : o.what = 1
    · rw [if_pos hw1, if_pos hw1]
      exact ih hr _ _ _ _ _ _ h1 h2 h3 h4
    · rw [if_neg hw1, if_neg hw1]
      by_cases hw2 : o.what = 2
      · rw [if_pos hw2, if_pos hw2]
        refine ih hr _ _ _ _ _ _ (by simpa using h1) (by simpa using h2) (fun j hj => ?_) (fun v hv => ?_)
        · obtain ⟨i1, i2⟩ := t3 (by omega)
          by_cases hx : o.item.toNat - 1 = j
          · subst hx
            rw [List.getD_eq_getElem?_getD, List.getElem?_set_self (by omega)] at hj
            simp at hj; omega
          · rw [List.getD_eq_getElem?_getD, List.getElem?_set_ne hx] at hj ⊢
            simpa [List.getD_eq_getElem?_getD] using h3 j (by simpa [List.getD_eq_getElem?_getD] using hj)
        · rcases List.mem_or_eq_of_mem_set hv with h5 | rfl
          · exact h4 v h5
          · omega
      · rw [if_neg hw2, if_neg hw2]
        exact ih hr _ _ _ _ _ _ h1 h2 h3 h4
theorem both_of {h : List HOp} (hk : okH h) : (lookF (doneL h)).2.length = 6 ∧ (playF h).1.length = 6 ∧ (∀ j, (lookF (doneL h)).2.getD j 0 = 0 → (playF h).1.getD j 0 = 0) ∧ ∀ v ∈ (playF h).1, 0 ≤ v ∧ v < 1000003 :=
  both (doneL h) (fun o ho => okH_right hk o (List.mem_filter.1 ho).1) 0 _ _ _ _ _ (by simp) (by simp) (fun j _ => by simp only [List.getD_eq_getElem?_getD, List.getElem?_replicate]; split <;> rfl) (by simp)
theorem play_done {h : List HOp} (hk : okH h) : playF (doneL h) = playF h := by
  rw [playF, doneL_doneL (okH_tx hk)]; rfl
theorem seen_le (l : List HOp) : ∀ (vs seen : List Int) (ds : List (Int × Int)), (playGo vs seen ds l).2.length ≤ seen.length + l.length := by
  induction l with
  | nil => intros; simp [playGo]
  | cons o r ih =>
    intro vs seen ds
    unfold playGo
    split
    · refine Nat.le_trans (ih _ _ _) (by simp; omega)
    · split
      · exact Nat.le_trans (ih _ _ _) (by simp)
      · exact Nat.le_trans (ih _ _ _) (by simp)
theorem seen_len (h : List HOp) : (playF h).2.length ≤ h.length := by
  have h1 := seen_le (doneL h) (List.replicate 6 0) [] (List.replicate 7 (0, 0))
  have h2 : (doneL h).length ≤ h.length := List.length_filter_le _ _
  have h3 : (playF h).2 = (playGo (List.replicate 6 0) [] (List.replicate 7 (0, 0)) (doneL h)).2 := rfl
  rw [h3]; simp only [List.length_nil] at h1; omega
theorem fact : okH [⟨1, 2, 2⟩, ⟨1, 3, 0⟩] ∧ playF [⟨1, 2, 2⟩, ⟨1, 3, 0⟩] = ([0, 8, 0, 0, 0, 0], []) := ⟨by show (checkF _).2 = 0; decide, by decide⟩

/-! ### The walk. -/
set_option maxRecDepth 100000 in
set_option maxHeartbeats 2000000 in
theorem walk (A : Option Addr) (n c : Nat) (h : List HOp) (w : World) (hr : Rd w w.heap.size 3 A n (cellsH h)) (hn : n * 24 ≤ 140737488351232) :
    Calls Try.prog 11 #[.slice A n c] w fun e w' => e = .returned (.bool true) ∧ Below w.heap.size w w' := by
  have HFO := Lib.hid fact.1
  have HFP := Lib.hid fact.2
  have hm : n ≤ 6000000000000 := by omega
  clear hn
  go_enter Try.func11, Try.ntmps11
  go_wp2_with fail
  have hr0 := rd_new w 51 (size := 3) (n := 2) [.int .i64 1, .int .i64 2, .int .i64 2, .int .i64 1, .int .i64 3, .int .i64 0] rfl
  refine Calls.mono ((values_any (some ⟨w.heap.size, 0, none⟩) 2 2 [⟨1, 2, 2⟩, ⟨1, 3, 0⟩] _ ?_ (by omega)).1 HFO.out) ?_
  · exact hr0.more (by simp)
  clear hr0
  rintro e w1 ⟨v1, rfl, ho1, hb1⟩
  rw [HFP.out] at ho1
  have hbw1 : Below w.heap.size w w1 := ((Below.refl _ _).alloc (Nat.le_refl _) _).trans (hb1.mono (by simp))
  obtain ⟨A1, c1, rfl⟩ := own_slice ho1
  obtain ⟨g, off, x0, he, _, hx0, e0⟩ := (rd_own ho1).int (k := 0) (by omega)
  cases he
  obtain ⟨g', off', x1, he, _, hx1, e1⟩ := (rd_own ho1).int (k := 1) (by omega)
  cases he
  simp at hx0 hx1
  subst hx0 hx1
  simp only [Nat.add_zero] at e0
  have hr1 := (hr.below hbw1).more hbw1.size
  clear ho1 hb1
  by_cases hok : okH h
  · have HOK := Lib.hid hok
    have HD := Lib.hid (okH_done hok)
    have HPD := Lib.hid (play_done hok)
    obtain ⟨hl1, hl2, hz, hbd⟩ := both_of hok
    have HZ := Lib.hid hz
    have HBD := Lib.hid hbd
    have HLS := Lib.hid (And.intro hl1 hl2)
    clear hok hz hbd hl1 hl2
    go_wp2_with fail
    refine ((done_any A n c h w1 hr1 hm).1 HOK.out).mono ?_
    rintro e w2 ⟨v2, m2, rfl, ho2, hb2⟩
    obtain ⟨A2, c2, rfl⟩ := own_slice ho2
    have hbw2 := hbw1.trans (hb2.mono hbw1.size)
    have hr2 := (hr.below hbw2).more hbw2.size
    have hd2 := rd_own ho2
    have hm2 : m2 ≤ 6000000000000 := by
      have := hd2.hlen
      have := List.length_filter_le (fun o : HOp => (flagsF h).getD o.tx.toNat false) h
      have := hr.hlen
      have : (doneL h).length ≤ h.length := List.length_filter_le _ _
      omega
    go_wp2_with fail
    refine ((values_any A n c h w2 hr2 hm).1 HOK.out).mono ?_
    rintro e w3 ⟨v3, rfl, ho3, hb3⟩
    obtain ⟨A3, c3, rfl⟩ := own_slice ho3
    have hbw3 := hbw2.trans (hb3.mono hbw2.size)
    have hd3 := (hd2.below hb3).more hb3.size
    have hv3 := rd_own ho3
    go_wp2_with fail
    refine ((values_any A2 m2 c2 (doneL h) w3 hd3 hm2).1 HD.out).mono ?_
    rintro e w4 ⟨v4, rfl, ho4, hb4⟩
    rw [HPD.out] at ho4
    obtain ⟨A4, c4, rfl⟩ := own_slice ho4
    have hbw4 := hbw3.trans (hb4.mono hbw3.size)
    have hr4 := (hr.below hbw4).more hbw4.size
    have hd4 := (hd3.below hb4).more hb4.size
    have hv4 := (hv3.below hb4).more hb4.size
    have hu4 := rd_own ho4
    go_wp2_with fail
    refine ((seen_any A n c h w4 hr4 hm).1 HOK.out).mono ?_
    rintro e w5 ⟨v5, m5, rfl, ho5, hb5⟩
    obtain ⟨A5, c5, rfl⟩ := own_slice ho5
    have hbw5 := hbw4.trans (hb5.mono hbw4.size)
    have hd5 := (hd4.below hb5).more hb5.size
    have hv5 := (hv4.below hb5).more hb5.size
    have hu5 := (hu4.below hb5).more hb5.size
    have hs5 := rd_own ho5
    go_wp2_with fail
    refine ((seen_any A2 m2 c2 (doneL h) w5 hd5 hm2).1 HD.out).mono ?_
    rintro e w6 ⟨v6, m6, rfl, ho6, hb6⟩
    rw [HPD.out] at ho6
    obtain ⟨A6, c6, rfl⟩ := own_slice ho6
    have hbw6 := hbw5.trans (hb6.mono hbw5.size)
    have hr6 := (hr.below hbw6).more hbw6.size
    have hv6 := (hv5.below hb6).more hb6.size
    have hu6 := (hu5.below hb6).more hb6.size
    have hs6 := (hs5.below hb6).more hb6.size
    have ht6 := rd_own ho6
    go_wp2_with fail
    refine ((last_any A n c h w6 hr6 hm).1 HOK.out).mono ?_
    rintro e w7 ⟨v7, rfl, ho7, hb7⟩
    obtain ⟨A7, c7, rfl⟩ := own_slice ho7
    have hbw7 := hbw6.trans (hb7.mono hbw6.size)
    have hv7 := (hv6.below hb7).more hb7.size
    have hu7 := (hu6.below hb7).more hb7.size
    have hs7 := (hs6.below hb7).more hb7.size
    have ht7 := (ht6.below hb7).more hb7.size
    have hl7 := rd_own ho7
    clear ho2 ho3 ho4 ho5 ho6 ho7 hb2 hb3 hb4 hb5 hb6 hb7 hr1 hr2 hr4 hr6 hd2 hd3 hd4 hd5 hv3 hv4 hv5 hv6 hu4 hu5 hu6 hs5 hs6 ht6 hbw1 hbw2 hbw3 hbw4 hbw5 hbw6
    go_wp2_with fail
    refine (ints_any A3 A4 6 6 c3 c4 _ _ w7 hv7 hu7 (by omega)).mono ?_
    rw [decide_eq_true rfl]
    rintro e w8 ⟨rfl, hb8⟩
    have hs8 := (hs7.below hb8).more hb8.size
    have ht8 := (ht7.below hb8).more hb8.size
    have hbw8 := hbw7.trans (hb8.mono hbw7.size)
    go_wp2_with fail
    refine (ints_any A5 A6 m5 m6 c5 c6 _ _ w8 hs8 ht8 (by have := hs7.ilen; have h40 := okH_len HOK.out; have := seen_len h; omega)).mono ?_
    rw [decide_eq_true rfl]
    rintro e w9 ⟨rfl, hb9⟩
    have hv9 := ((hv7.below hb8).more hb8.size).below hb9
    have hl9 := ((hl7.below hb8).more hb8.size).below hb9
    have hbw9 := hbw8.trans (hb9.mono hbw8.size)
    clear hs7 ht7 hs8 ht8 hu7 hv7 hl7 hb8 hb9 hbw7 hbw8
    go_wp2
    go_loop [18] (fun i => ∃ k : Nat, k ≤ 6 ∧ i = .int .i64 k) (fun i => 6 - (intOf i).toNat)
    case atStart => exact ⟨0, by omega, rfl⟩
    case round =>
      obtain ⟨k, hk, rfl⟩ := hrel
      by_cases hlt : k < 6
      · obtain ⟨b1, o1, x, he, _, hx, d1⟩ := hl9.int (k := k) (by omega)
        cases he
        obtain ⟨b2, o2, y, he, _, hy, d2⟩ := hv9.int (k := k) (by omega)
        cases he
        have hxy := HZ.out k
        rw [List.getD_eq_getElem?_getD, List.getD_eq_getElem?_getD, hx, hy] at hxy
        simp only [Option.getD_some] at hxy
        obtain ⟨y1, y2⟩ := HBD.out y (List.mem_of_getElem? hy)
        clear hx hy
        by_cases hx0 : x = 0
        · obtain rfl := hxy hx0
          subst hx0
          clear hxy
          go_wp2
          go_round
          case rel => exact ⟨k + 1, by omega, by go_num⟩
          case measure => simp [intOf]; omega
        · clear hxy
          go_wp2
          go_round
          case rel => exact ⟨k + 1, by omega, by go_num⟩
          case measure => simp [intOf]; omega
      · go_wp2
        go_ret
        exact ⟨rfl, hbw9⟩
  · go_wp2_with fail
    refine ((done_any A n c h w1 hr1 hm).2 hok).mono ?_
    rw [ne_errV (show (checkF h).2 ≠ 0 from hok)]
    generalize (checkF h).2 = ev
    rintro e w2 ⟨rfl, hb2⟩
    clear hok
    go_wp2
    go_ret
    exact ⟨rfl, hbw1.trans (hb2.mono hbw1.size)⟩
theorem own : ownKnob Try.prog.godebug = none := by kernel_rfl
theorem bytes_ops : Try.prog.bytesOf 51 = 24 := by kernel_rfl

/-! ### The row. -/
set_option maxRecDepth 100000 in
theorem lifted (os : Os) (started : os.Started) (H : Type) (enc : TypeId × Value → H) :
    ReturnsInHanded {} Try.checked os 11 .any (Rows.playDoneSpec.pre6 enc Try.prog Try.f11 Rows.playDoneRow.domain false) (Rows.playDoneSpec.post enc Try.prog Try.f11 false true false false) := by
  refine returnsInHanded_of_change_sized (C := Try.checked) own started (by kernel_rfl) Try.func11
    (ChangeSpec.witness6 (enc := enc) (C := Try.checked) false ⟨#[], #[.slice none 0 0], []⟩ 8 (by kernel_rfl) (by kernel_rfl) (by kernel_rfl) (by kernel_rfl)) ?_
  intro W base args ds gs before hval0 hW hcnd hsz0 _
  have hval : ∀ (j : Nat) t v, Try.f11.params[j]? = some t → args[j]? = some v → Value.okWide Try.prog W .any base t v := hval0
  have hW' := hW
  obtain ⟨p, q, hA0, hV, rfl, hfz, hnd⟩ := hW
  have hA : DataW.TrodAll enc Try.prog W 0 (fun _ => true) true Try.f11.params.toList args.toList ds p := hA0
  have hsz : (DataW.weightsEach Try.prog (Try.f11.params.toList ++ Rows.playDoneSpec.plain.varTypes Try.prog) (ds ++ gs)).all (· ≤ reachBytes) = true := hsz0
  rw [Try.params11] at hA hval hsz
  obtain ⟨v0, vs0, d0, ds0, p0, q0, hargs, rfl, rfl, h0, r0⟩ := trodAll_cons hA
  obtain ⟨rfl, rfl, rfl⟩ := trodAll_nil r0
  obtain rfl : args = #[v0] := by cases args; simp_all
  obtain ⟨rfl, rfl⟩ := trodVars_none hV
  simp only [List.append_nil] at hW'
  have hk0 := h0
  have hlt0 : ∀ x ∈ p0, x.block < W.heap.size := fun x hx => hW'.lt x (by simp [hx])
  obtain ⟨A0, n0, c0, l0, rfl, rd0, bd0⟩ := open_ops Try.underlying43 Try.underlying51 Try.underlying3 rfl rfl rfl (by kernel_rfl) (by kernel_rfl) (hval 0 43 v0 rfl rfl) h0 (fun e s he => by have := sized_slice hsz (j := 0) (t := 43) (e := 51) rfl (congrArg some he) Try.underlying43; rwa [bytes_ops] at this)
  clear hA0 hval0
  refine (walk A0 n0 c0 l0 W rd0 bd0).mono fun e W' ⟨he, hg⟩ => ?_
  subst he
  exact ⟨_, rfl, post_slices (pa := _) (pv := []) hW' hg (by simp) (fun _ _ _ => (trodAll_cons_mk (shut_bool Try.underlying4 _) trodAll_mk0)) (trodAll_cons_mk (Below.trod laidOut (by kernel_rfl) (of_decide_eq_true (by kernel_rfl)) hk0 hg hlt0) trodAll_mk0) rfl⟩

theorem over : Rows.playDoneRow.holds Try.pinned (OpenSpec.ofChange Rows.playDoneSpec) :=
  OpenClaim.holds_of_wide 11 Try.f11 rfl rfl rfl rfl rfl rfl rfl ⟨rfl, rfl, rfl, rfl, rfl⟩ rfl rfl rfl rfl rfl (by kernel_rfl) Try.func11 (by kernel_rfl)
    (of_decide_eq_true (by kernel_rfl)) (by unfold Func.isWrapper; first | (rw [if_pos (by decide +kernel)]; kernel_rfl) | (rw [if_neg (by decide +kernel)]; exact ⟨rfl, rfl⟩))
    (fun os started H enc _ => lifted os started H enc)

/-- The statement. -/
theorem proved : Rows.PlayDoneSaid :=
  over
#print axioms proved
end Go.Proofs.Ytaeckfhmmckopaa.playDone


/-
  PROVED: lanelaw1.FacesNest returns true, for every history: what is rigorous is strict, what is strict is cautious, what is cautious is recoverable; what is rigorous has an order: that in which its deals commit. No condition beyond the form's own reach.
-/
import Derived.Test.YtkpnpkikonlmpaaM2
import Derived.Test.YtkpnpkikonlmpaaM6
import Derived.Test.YtkpnpkikonlmpaaDone2
import Derived.Test.YtkpnpkikonlmpaaM3
import Derived.Test.YtkpnpkikonlmpaaM5
import Derived.Test.YtkpnpkikonlmpaaOpen

namespace Go.Proofs.Ytkpnpkikonlmpaa.facesNest
open Go.ChangeShapes Go.WideShapes Go.ChangeAt Go.RowKit Go.Proofs.Ytkpnpkikonlmpaa

/-! ### The plain law. -/
def oneF : List HOp := [⟨1, 2, 1⟩, ⟨2, 1, 1⟩, ⟨2, 3, 0⟩]
theorem fact : okH oneF ∧ okH (oneF.take 1) ∧ (facesF oneF).recov = false ∧ (facesF oneF).caut = false ∧ (facesF (oneF.take 1)).rig = true := ⟨by show (checkF _).2 = 0; decide, by show (checkF _).2 = 0; decide, by decide, by decide, by decide⟩
theorem nest {h : List HOp} (hk : okH h) : ((facesF h).rig = true → (facesF h).strict = true) ∧ ((facesF h).strict = true → (facesF h).caut = true) ∧ ((facesF h).caut = true → (facesF h).recov = true) := by
  refine ⟨fun hr => ?_, fun hs => strict_caut hk hs, fun hc => caut_rec hk hc⟩
  unfold facesF at hr ⊢
  simp only [Bool.and_eq_true] at hr
  exact hr.2
theorem commits_take {h : List HOp} {k : Nat} {o : HOp} (ho : h[k]? = some o) : commitsL (h.take (k + 1)) = if o.what = 3 then commitsL (h.take k) ++ [o.tx] else commitsL (h.take k) := by
  rw [show h.take (k + 1) = h.take k ++ [o] by rw [List.take_add_one, ho]; rfl, commitsL_append]
  by_cases hw : o.what = 3
  · rw [if_pos hw]; simp [commitsL, hw]
  · rw [if_neg hw]; simp [commitsL, hw]
theorem rig_law {h : List HOp} (hk : okH h) (hr : (facesF h).rig = true) : serE h (commitsL h) = 0 ∧ serL h (commitsL h) = alongL (doneL h) (commitsL h) ∧ sameV (serL h (commitsL h)) (doneL h) = true ∧ sameE (serL h (commitsL h)) (doneL h) = 0 := by
  have e1 : sortI (commitsL h) = dealsL (doneL h) := by
    unfold dealsL
    refine sortS_eq sloI ?_ fun x => ?_
    · have h1 := sortI_up (commitsL h)
      have h2 : (sortI (commitsL h)).Nodup := (List.mergeSort_perm _ _).nodup_iff.2 (commits_nodup hk)
      exact (h1.and h2).imp fun {a b} ⟨g1, g2⟩ => by simp [ltI] at g1 ⊢; omega
    · rw [sortI_mem, commits_deals hk]
      unfold dealsL
      rw [mem_sortS]
  have e2 : serE h (commitsL h) = 0 := by
    unfold serE
    rw [if_neg (fun e => e hk), if_pos e1]
  have e3 : serL h (commitsL h) = alongL (doneL h) (commitsL h) := by unfold serL; rw [if_pos e2]
  have hs := rig_serial hk hr
  have hd := okH_done hk
  have ha := okH_sw hs hd
  refine ⟨e2, e3, ?_, ?_⟩
  · unfold sameV
    rw [e3, (alike_iff_sw (okH_tx ha) (okH_tx hd)).2 hs.symm, show (checkF (alongL (doneL h) (commitsL h))).2 = 0 from ha, show (checkF (doneL h)).2 = 0 from hd]; rfl
  · unfold sameE
    rw [e3, show (checkF (alongL (doneL h) (commitsL h))).2 = 0 from ha, show (checkF (doneL h)).2 = 0 from hd]; rfl

/-! ### The walk. -/
set_option maxRecDepth 100000 in
set_option maxHeartbeats 8000000 in
theorem walk (A : Option Addr) (n c : Nat) (h : List HOp) (w : World) (hr : Rd w w.heap.size 3 A n (cellsH h)) (hn : n * 24 ≤ 140737488351232) (hcap : n ≤ c) :
    Calls Try.prog 3 #[.slice A n c] w fun e w' => e = .returned (.bool true) ∧ Below w.heap.size w w' := by
  obtain ⟨f1, f2, f3, f4, f5⟩ := fact
  have hm : n ≤ 6000000000000 := by omega
  have HLH := Lib.hid hr.hlen
  have HR := hide (fun w1 (hb : Below w.heap.size w w1) => (hr.below hb).more hb.size)
  have HRd := hide (fun w1 (hb : Below w.heap.size w w1) => hr.below hb)
  have hr0 := rd_new w 24 (size := 3) (n := 3) (cellsH oneF) rfl
  have hb0 : Below w.heap.size w (w.alloc (.cells (cellsH oneF).toArray 24)) := (Below.refl _ _).alloc (Nat.le_refl _) _
  have C1 := hide (facesOf_ok (some ⟨w.heap.size, 0, none⟩) 3 3 oneF _ (hr0.more (by simp)) (by omega) f1)
  have HR0 := hide (fun w1 (hb : Below (w.heap.size + 1) (w.alloc (.cells (cellsH oneF).toArray 24)) w1) => (hr0.below hb))
  have C2 := hide (fun w1 hr1 => facesOf_ok (some ⟨w.heap.size, 0, none⟩) 1 3 (oneF.take 1) w1 hr1 (by omega) f2)
  have HB0 := hide hb0
  have CO := hide (fun w1 (hb : Below w.heap.size w w1) (hok : okH h) => facesOf_ok A n c h w1 (unhide HR w1 hb) hcap hok)
  have CN := hide (fun w1 (hb : Below w.heap.size w w1) (hno : ¬ okH h) => facesOf_no A n c h w1 (unhide HR w1 hb) hm hno)
  generalize facesF oneF = F0 at *
  obtain ⟨F0a, F0b, F0c, F0d⟩ := F0
  generalize facesF (oneF.take 1) = F1 at *
  obtain ⟨F1a, F1b, F1c, F1d⟩ := F1
  simp only at f3 f4 f5
  subst f3 f4 f5
  unfold FacesV.val at C1 C2
  simp only at C1 C2
  clear hb0 hr0 hr f1 f2 hn
  go_enter Try.func3, Try.ntmps3
  go_wp2_with fail
  refine (unhide C1).mono ?_
  rintro e w1 ⟨rfl, hb1⟩
  have hbw1 := (unhide HB0).trans (hb1.mono (unhide HB0).size)
  have hb1' : Below (w.heap.size + 1) (w.alloc (.cells (cellsH oneF).toArray 24)) w1 := hb1.mono (by simp)
  have hbw2 := hbw1.alloc hbw1.size (.cells #[.bool false, .bool false, .bool F0c, .bool F0d] 26)
  have hb2' := hb1'.alloc (by have := hb1.size; simpa using this) (.cells #[.bool false, .bool false, .bool F0c, .bool F0d] 26)
  have hrt := (unhide HR0 _ hb2').take (i := 1) (by omega)
  have CT := hide (unhide C2 _ (hrt.more (by have := hb2'.size; simpa using this)))
  clear C1 C2 hb1 hb1' hb2' hrt HR0 HB0 hbw1
  go_wp2_with fail
  refine (unhide CT).mono ?_
  rintro e w3 ⟨rfl, hb3⟩
  have hbw3 := hbw2.trans (hb3.mono hbw2.size)
  have hbw4 := hbw3.alloc hbw3.size (.cells #[.bool F1a, .bool F1b, .bool F1c, .bool true] 26)
  clear CT hb3 hbw3 hbw2
  by_cases hok : okH h
  · have HN := Lib.hid (nest hok)
    have HLW := Lib.hid (fun hr => rig_law hok hr)
    have hn40 : n ≤ 40 := by rw [← HLH.out]; exact okH_len hok
    have C3 := hide (unhide CO _ hbw4 hok)
    have CSE := hide (fun A2 m2 c2 o w1 (hb : Below w.heap.size w w1) (ho : Rd w1 w1.heap.size 1 A2 m2 (cellsI o)) (hm2 : m2 ≤ 17592186043904) => serial_any A A2 n m2 c c2 h o w1 (unhide HR w1 hb) ho hm hm2)
    have CD := hide (fun w1 (hb : Below w.heap.size w w1) => (done_any A n c h w1 (unhide HR w1 hb) hm).1 hok)
    have hdl : (doneL h).length ≤ 40 := by
      have h1 := okH_len hok
      have := List.length_filter_le (fun o : HOp => (flagsF h).getD o.tx.toNat false) h
      unfold doneL; omega
    clear hok CO CN
    go_wp2_with fail
    refine (unhide C3).mono ?_
    rintro e w5 ⟨rfl, hb5⟩
    have hbw5 := hbw4.trans (hb5.mono hbw4.size)
    have p := HN.out
    clear C3 hb5 hbw4 HN
    generalize facesF h = F at *
    obtain ⟨Fr, Fc, Fs, Fg⟩ := F
    unfold FacesV.val
    simp only at p HLW ⊢
    obtain ⟨p1, p2, p3⟩ := p
    have hbw6 := hbw5.alloc hbw5.size (.cells #[.bool Fr, .bool Fc, .bool Fs, .bool Fg] 26)
    cases Fg
    · clear HLW CSE CD p1
      cases Fs <;> cases Fc <;> cases Fr
      all_goals first
        | exact absurd (p2 rfl) (by decide)
        | exact absurd (p3 rfl) (by decide)
        | (clear p2 p3; go_wp2; go_ret; exact ⟨rfl, hbw6⟩)
    · obtain rfl := p1 rfl
      obtain rfl := p2 rfl
      obtain rfl := p3 rfl
      obtain ⟨e1, e2, e3, e4⟩ := HLW.out rfl
      rw [e2] at e3 e4
      have HE1 := Lib.hid e1
      have HE2 := Lib.hid e2
      have HE3 := Lib.hid e3
      have HE4 := Lib.hid e4
      clear e1 e2 e3 e4 p1 p2 p3 HLW
      go_wp2
      go_loopw [9, 10] (fun s9 s10 wr => ∃ k m : Nat, k ≤ n ∧ m ≤ k ∧ s10 = .int .i64 k ∧ wr.ownsRow w.heap.size 3 1 s9 m (cellsI (commitsL (h.take k))) ∧ Below w.heap.size w wr) (fun _ s10 _ => n - (intOf s10).toNat)
      case atStart => exact ⟨0, 0, Nat.zero_le _, Nat.le_refl _, rfl, World.ownsRow_nil _ _ _ _, hbw6⟩
      case round =>
        clear hbw6 hbw5
        obtain ⟨k, m, hk, hmk, rfl, ho9, hbw⟩ := hrel
        obtain ⟨A9, c9, rfl⟩ := own_slice ho9
        by_cases hlt : k < n
        · obtain ⟨b, off, o, he, hb, ho, c0, c1', c2⟩ := (unhide HRd wr hbw).op (k := k) hlt
          cases he
          have HS := Lib.hid (commits_take ho)
          clear ho
          obtain ⟨o1, o2, o3⟩ := o
          simp only at c0 c1' c2 HS
          have hz := hbw.size
          by_cases hw : o2 = 3
          · have HS2 : Hid (commitsL (h.take (k + 1)) = commitsL (h.take k) ++ [o1]) := Lib.hid (by rw [HS.out, if_pos hw])
            subst hw
            clear HS
            go_wp2_with (at_builtin; refine wpList_app rfl (.tmp 96) (.tmp 102) _ rfl w.heap.size slt_ints (n := m) (xs := cellsI (commitsL (h.take k))) (m := 1) (news := cellsI [o1]) rfl (own_alloc ho9 _) rfl (rd_new' _ _ (cellsI [o1]) (by simp) rfl) (oneI _) (by omega) (by simp; omega) ?_; intro v5 w5 hown5 hg5 hb5 hat5 hne5)
            have hb6 := (hbw.alloc hz (.cells (cellsI [o1]).toArray 3)).trans hb5
            have e1 : cellsI (commitsL (h.take k)) ++ cellsI [o1] = cellsI (commitsL (h.take (k + 1))) := by rw [HS2.out]; simp [cellsI]
            rw [e1] at hown5
            clear e1
            go_roundw
            case rel => exact ⟨k + 1, m + 1, by omega, by omega, by go_num, hown5, hb6⟩
            case measure => simp [intOf]; omega
          · have HS2 : Hid (commitsL (h.take (k + 1)) = commitsL (h.take k)) := Lib.hid (by rw [HS.out, if_neg hw])
            have hwb : (o2 == 3) = false := by simpa using hw
            clear HS hw
            go_wp2
            go_roundw
            case rel => exact ⟨k + 1, m, by omega, by omega, by go_num, by rw [HS2.out]; exact ho9, hbw⟩
            case measure => simp [intOf]; omega
        · have hT : h.take k = h := List.take_of_length_le (by rw [HLH.out]; omega)
          rw [hT] at ho9
          have hd9 := rd_own ho9
          have C4 := hide (unhide CSE A9 m c9 (commitsL h) wr hbw hd9 (by omega))
          rw [HE1.out, HE2.out, errV_zero] at C4
          clear hT ho9 hd9 CSE HE1 HE2
          generalize alongL (doneL h) (commitsL h) = S at *
          generalize doneL h = D at *
          go_wp2_with fail
          refine (unhide C4).mono ?_
          rintro e w6 ⟨v6, q, rfl, ho6, hq, hb6⟩
          obtain ⟨A6, c6, rfl⟩ := own_slice ho6
          have hd6 := rd_own ho6
          have hbw6 := hbw.trans (hb6.mono hbw.size)
          have C5 := hide (unhide CD w6 hbw6)
          clear C4 CD ho6 hb6 hbw
          go_wp2_with fail
          refine (unhide C5).mono ?_
          rintro e w7 ⟨v7, m7, rfl, ho7, hb7⟩
          obtain ⟨A7, c7, rfl⟩ := own_slice ho7
          have hd7 := rd_own ho7
          have hm7 : m7 ≤ 40 := by rw [← hd7.hlen]; exact hdl
          have hbw7 := hbw6.trans (hb7.mono hbw6.size)
          have C6 := hide (same_any A6 A7 q m7 c6 c7 S D w7 ((hd6.below hb7).more hb7.size) hd7 (by omega) (by omega))
          rw [HE3.out, HE4.out, errV_zero] at C6
          clear C5 ho7 hb7 hd6 hd7 hbw6
          go_wp2_with fail
          refine (unhide C6).mono ?_
          rintro e w8 ⟨rfl, hb8⟩
          have hbw8 := hbw7.trans (hb8.mono hbw7.size)
          go_wp2
          go_ret
          exact ⟨rfl, hbw8⟩
  · have CN2 := hide (unhide CN _ hbw4 hok)
    rw [ne_errV (show (checkF h).2 ≠ 0 from hok)] at CN2
    generalize (checkF h).2 = ev at *
    clear hok CO CN
    go_wp2_with fail
    refine (unhide CN2).mono ?_
    rintro e w5 ⟨rfl, hb5⟩
    have hbw5 := (hbw4.trans (hb5.mono hbw4.size)).alloc (hbw4.trans (hb5.mono hbw4.size)).size (.cells #[.bool false, .bool false, .bool false, .bool false] 26)
    go_wp2
    go_ret
    exact ⟨rfl, hbw5⟩
theorem own : ownKnob Try.prog.godebug = none := by kernel_rfl
theorem bytes_opsc : Try.prog.bytesOf 24 = 24 := by kernel_rfl

/-! ### The row. -/
set_option maxRecDepth 100000 in
theorem lifted (os : Os) (started : os.Started) (H : Type) (enc : TypeId × Value → H) :
    ReturnsInHanded {} Try.checked os 3 .any (Rows.facesNestSpec.pre6 enc Try.prog Try.f3 Rows.facesNestRow.domain false) (Rows.facesNestSpec.post enc Try.prog Try.f3 false true false false) := by
  refine returnsInHanded_of_change_sized (C := Try.checked) own started (by kernel_rfl) Try.func3
    (ChangeSpec.witness6 (enc := enc) (C := Try.checked) false ⟨#[], #[.slice none 0 0], []⟩ 8 (by kernel_rfl) (by kernel_rfl) (by kernel_rfl) (by kernel_rfl)) ?_
  intro W base args ds gs before hval0 hW hcnd hsz0 _
  have hval : ∀ (j : Nat) t v, Try.f3.params[j]? = some t → args[j]? = some v → Value.okWide Try.prog W .any base t v := hval0
  have hW' := hW
  obtain ⟨p, q, hA0, hV, rfl, hfz, hnd⟩ := hW
  have hA : DataW.TrodAll enc Try.prog W 0 (fun _ => true) true Try.f3.params.toList args.toList ds p := hA0
  have hsz : (DataW.weightsEach Try.prog (Try.f3.params.toList ++ Rows.facesNestSpec.plain.varTypes Try.prog) (ds ++ gs)).all (· ≤ reachBytes) = true := hsz0
  rw [Try.params3] at hA hval hsz
  obtain ⟨v0, vs0, d0, ds0, p0, q0, hargs, rfl, rfl, h0, r0⟩ := trodAll_cons hA
  obtain ⟨rfl, rfl, rfl⟩ := trodAll_nil r0
  obtain rfl : args = #[v0] := by cases args; simp_all
  obtain ⟨rfl, rfl⟩ := trodVars_none hV
  simp only [List.append_nil] at hW'
  have hk0 := h0
  have hlt0 : ∀ x ∈ p0, x.block < W.heap.size := fun x hx => hW'.lt x (by simp [hx])
  obtain ⟨A0, n0, c0, l0, rfl, rd0, bd0, cp0⟩ := open_opsc Try.underlying22 Try.underlying24 Try.underlying3 rfl rfl rfl (by kernel_rfl) (by kernel_rfl) (hval 0 22 v0 rfl rfl) h0 (fun e s he => by have := sized_slice hsz (j := 0) (t := 22) (e := 24) rfl (congrArg some he) Try.underlying22; rwa [bytes_opsc] at this)
  clear hA0 hval0
  refine (walk A0 n0 c0 l0 W rd0 bd0 cp0).mono fun e W' ⟨he, hg⟩ => ?_
  subst he
  exact ⟨_, rfl, post_slices (pa := _) (pv := []) hW' hg (by simp) (fun _ _ _ => (trodAll_cons_mk (shut_bool Try.underlying4 _) trodAll_mk0)) (trodAll_cons_mk (Below.trod laidOut (by kernel_rfl) (of_decide_eq_true (by kernel_rfl)) hk0 hg hlt0) trodAll_mk0) rfl⟩

theorem over : Rows.facesNestRow.holds Try.pinned (OpenSpec.ofChange Rows.facesNestSpec) :=
  OpenClaim.holds_of_wide 3 Try.f3 rfl rfl rfl rfl rfl rfl rfl ⟨rfl, rfl, rfl, rfl, rfl⟩ rfl rfl rfl rfl rfl (by kernel_rfl) Try.func3 (by kernel_rfl)
    (of_decide_eq_true (by kernel_rfl)) (by unfold Func.isWrapper; first | (rw [if_pos (by decide +kernel)]; kernel_rfl) | (rw [if_neg (by decide +kernel)]; exact ⟨rfl, rfl⟩))
    (fun os started H enc _ => lifted os started H enc)

/-- The statement. -/
theorem proved : Rows.FacesNestSaid :=
  over
#print axioms proved
end Go.Proofs.Ytkpnpkikonlmpaa.facesNest

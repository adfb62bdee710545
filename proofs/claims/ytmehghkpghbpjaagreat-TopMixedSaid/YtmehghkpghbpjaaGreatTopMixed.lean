
/-
  PROVED: lanetop.TopMixed returns true, for every history, every number and every way: whichever of all orders its ops come in, with locks that are kept all that are not aborted come to what they come to one behind the other. No condition beyond the form's own reach.
-/
import Derived.Test.YtmehghkpghbpjaaGreatStrS
import Derived.Test.YtmehghkpghbpjaaGreatStrZ
import Derived.Test.YtmehghkpghbpjaaGreatQ46
import Derived.Test.YtmehghkpghbpjaaGreatQ45
import Derived.Test.YtmehghkpghbpjaaGreatQ41
import Derived.Test.YtmehghkpghbpjaaGreatPieces
import Derived.Test.YtmehghkpghbpjaaGreatQ39

namespace Go.Proofs.YtmehghkpghbpjaaGreat.topMixed
open Go.ChangeShapes Go.WideShapes Go.ChangeAt Go.RowKit Go.Proofs.YtmehghkpghbpjaaGreat

theorem nth_zero {h : List HOp} {k : Int} (he : nthE h k = 0) : okH (nthL h k) ∧ (nthL h k).length ≤ 8 := by
  have hm : mixE h = 0 := by
    unfold nthE at he
    by_cases hm : mixE h = 0
    · exact hm
    · rw [if_pos hm] at he; exact absurd he hm
  have hin : 0 ≤ k ∧ k < (mixesF h).length := by
    unfold nthE at he
    rw [if_neg (by omega)] at he
    by_cases hin : 0 ≤ k ∧ k < (mixesF h).length
    · exact hin
    · rw [if_neg hin] at he; cases he
  obtain ⟨hok, h8⟩ := mixE_zero hm
  have hmem : nthL h k ∈ mixesF h := by
    unfold nthL
    have hlt : k.toNat < (mixesF h).length := by omega
    rw [if_pos he, List.getD_eq_getElem?_getD, List.getElem?_eq_getElem hlt]
    exact List.getElem_mem hlt
  obtain ⟨_, h2, h3⟩ := mixes_own hok hmem
  exact ⟨h3, by omega⟩

set_option maxRecDepth 100000 in
set_option maxHeartbeats 8000000 in
theorem walk (A : Option Addr) (n c : Nat) (h : List HOp) (k way : Int) (w : World) (hr : Rd w w.heap.size 3 A n (cellsH h)) (hn : n * 24 ≤ 140737488351232) :
    Calls Tryz.prog 3 #[.slice A n c, .int .i64 k, .int .i64 way] w fun e w' => e = .returned (.bool true) ∧ Below w.heap.size w w' := by
  have hm : n ≤ 6000000000000 := by omega
  have C0 := hide (one_any w)
  have CN := hide (fun w1 (hb : Below w.heap.size w w1) => nth_any A n c h k w1 ((hr.below hb).more hb.size) hm)
  unfold NthPost at CN
  by_cases he : nthE h k = 0
  rotate_left
  · rw [ne_errV he] at CN
    generalize nthE h k = ev at *
    clear hr
    go_enter Tryz.func3, Tryz.ntmps3
    go_wp2_with fail
    refine (unhide C0).mono ?_
    rintro e w1 ⟨rfl, hb1⟩
    go_wp2_with fail
    refine (unhide CN w1 hb1).mono ?_
    rintro e w2 ⟨A2, n2, c2, rfl, _, _, hb2⟩
    have hbw2 := hb1.trans (hb2.mono hb1.size)
    go_wp2
    go_ret
    exact ⟨rfl, hbw2⟩
  obtain ⟨hok, h8⟩ := nth_zero he
  rw [he, errV_zero] at CN
  generalize nthL h k = L at *
  have HOK := Lib.hid hok
  have HL8 := Lib.hid h8
  by_cases hw : way < 0 ∨ 2 < way
  · have CW := hide (fun A2 n2 c2 w1 (hd : Rd w1 w1.heap.size 3 A2 n2 (cellsH L)) => strict_way A2 n2 c2 L way w1 hd HOK.out hw)
    rw [show errV 1 = .iface 57 (.int .i64 1) from rfl] at CW
    have hw2 : way < 0 ∨ (¬ way < 0 ∧ 2 < way) := by omega
    clear hr hw
    rcases hw2 with hw2 | ⟨hw3, hw4⟩
    all_goals
      go_enter Tryz.func3, Tryz.ntmps3
      go_wp2_with fail
      refine (unhide C0).mono ?_
      rintro e w1 ⟨rfl, hb1⟩
      go_wp2_with fail
      refine (unhide CN w1 hb1).mono ?_
      rintro e w2 ⟨A2, n2, c2, rfl, _, hd2, hb2⟩
      have hbw2 := hb1.trans (hb2.mono hb1.size)
      have CW2 := hide (unhide CW A2 n2 c2 w2 hd2)
      clear hd2
      go_wp2_with fail
      refine (unhide CW2).mono ?_
      rintro e w3 ⟨rfl, hb3⟩
      have hbw3 := hbw2.trans (hb3.mono hbw2.size)
      go_wp2
      go_ret
      exact ⟨rfl, hbw3⟩
  obtain ⟨N, s', o, hrun, ht, hv, hokt, _, ho, hnot⟩ := mixed_law way hok h8
  have CS := hide (fun A2 n2 c2 w1 (hd : Rd w1 w1.heap.size 3 A2 n2 (cellsH L)) => strict_any A2 n2 c2 L way w1 hd HOK.out (by omega) (by omega) N s' (hrun N (Nat.le_refl _)) (by omega) (by omega))
  obtain ⟨j1, j2, _, _, _, _, j7⟩ := just_some hokt ho
  obtain ⟨o1, o2⟩ := ord_some hokt ho
  have HJ := Lib.hid (And.intro hokt (And.intro j2 (And.intro ht hv)))
  have HON := Lib.hid (show o.length ≤ 1000000 from by
    have h1 : o.length ≤ (commitsL s'.told).length := by
      refine List.Nodup.length_le_of_subset (orderOf_some ho).1 fun x hx => ?_
      exact (commits_deals hokt).2 (((orderOf_some ho).2.1 x).1 hx)
    have h2 : (commitsL s'.told).length ≤ s'.told.length := by
      unfold commitsL
      rw [List.length_map]; exact List.length_filter_le _ _
    omega)
  have CO := hide (fun A2 n2 c2 w1 (hd : Rd w1 w1.heap.size 3 A2 n2 (cellsH s'.told)) (hn2 : n2 ≤ 40) => sorder_any A2 n2 c2 s'.told w1 hd (by omega))
  rw [o1, o2, errV_zero] at CO
  have CR := hide (fun A2 n2 c2 B2 m2 d2 w1 (hd : Rd w1 w1.heap.size 3 A2 n2 (cellsH s'.told)) (hd2 : Rd w1 w1.heap.size 1 B2 m2 (cellsI o)) (hn2 : n2 ≤ 40) (hm2 : m2 ≤ 1000000) => serial_any A2 B2 n2 m2 c2 d2 s'.told o w1 hd hd2 (by omega) (by omega))
  rw [j1, errV_zero] at CR
  have CV := hide (fun A2 n2 c2 w1 (hd : Rd w1 w1.heap.size 3 A2 n2 (cellsH s'.told)) (hn2 : n2 ≤ 240) => (values_any A2 n2 c2 s'.told w1 hd (by omega)).1 HJ.out.1)
  have CU := hide (fun A2 n2 c2 w1 (hd : Rd w1 w1.heap.size 3 A2 n2 (cellsH (serL s'.told o))) (hn2 : n2 ≤ 240) => (values_any A2 n2 c2 (serL s'.told o) w1 hd (by omega)).1 HJ.out.2.1)
  rw [← j7] at CU
  have HNOT := Lib.hid hnot
  clear hr hw ho hokt j1 j2 j7 o1 o2 hrun hnot ht hv
  generalize s'.told = T at *
  generalize s'.vic = V at *
  generalize serL T o = SL at *
  generalize (playF T).1 = PV at *
  go_enter Tryz.func3, Tryz.ntmps3
  go_wp2_with fail
  refine (unhide C0).mono ?_
  rintro e w1 ⟨rfl, hb1⟩
  go_wp2_with fail
  refine (unhide CN w1 hb1).mono ?_
  rintro e w2 ⟨A2, n2, c2, rfl, _, hd2, hb2⟩
  have hbw2 := hb1.trans (hb2.mono hb1.size)
  have CS2 := hide (unhide CS A2 n2 c2 w2 hd2)
  clear hd2 hb1 hb2 C0 CN CS
  go_wp2_with fail
  refine (unhide CS2).mono ?_
  rintro e w3 ⟨v3, u3, rfl, ho3, hp3, hb3⟩
  obtain ⟨A3, c3, rfl⟩ := own_slice ho3
  obtain ⟨B3, d3, rfl⟩ := own_slice hp3
  have hbw3 := hbw2.trans (hb3.mono hbw2.size)
  have HT := hide (fun w' (hb : Below w3.heap.size w3 w') => rd_own (own_below ho3 hb (Nat.le_refl _)))
  have HV := hide (fun w' (hb : Below w3.heap.size w3 w') => rd_own (own_below hp3 hb (Nat.le_refl _)))
  obtain ⟨nt, hnt⟩ : ∃ nt, T.length = nt := ⟨_, rfl⟩
  obtain ⟨nv, hnv⟩ : ∃ nv, V.length = nv := ⟨_, rfl⟩
  have hnt2 : nt ≤ 32 := by have := HJ.out.2.2.1; omega
  have hnv2 : nv ≤ 32 := by have := HJ.out.2.2.2; omega
  rw [hnt] at HT
  rw [hnv] at HV
  rw [hnt, hnv]
  clear ho3 hp3 hb3 CS2 hnt hnv
  have C1 := hide (unhide CO A3 nt c3 w3 (unhide HT w3 (Below.refl _ _)) (by omega))
  go_wp2_with fail
  refine (unhide C1).mono ?_
  rintro e w4 ⟨v4, m4, rfl, ho4, hb4⟩
  obtain ⟨A4, c4, rfl⟩ := own_slice ho4
  have hm4 : m4 ≤ 1000000 := by have := own_ilen ho4; have := HON.out; omega
  have HO := hide (fun w' (hb : Below w4.heap.size w4 w') => rd_own (own_below ho4 hb (Nat.le_refl _)))
  have C2 := hide (unhide CR A3 nt c3 A4 m4 c4 w4 (unhide HT w4 hb4) (unhide HO w4 (Below.refl _ _)) (by omega) hm4)
  clear C1 ho4
  go_wp2_with fail
  refine (unhide C2).mono ?_
  rintro e w5 ⟨v5, m5, rfl, ho5, hq5, hb5⟩
  obtain ⟨A5, c5, rfl⟩ := own_slice ho5
  have HS := hide (fun w' (hb : Below w5.heap.size w5 w') => rd_own (own_below ho5 hb (Nat.le_refl _)))
  have hb45 := hb4.trans (hb5.mono hb4.size)
  have C3 := hide (unhide CV A3 nt c3 w5 (unhide HT w5 hb45) (by omega))
  clear C2 ho5
  go_wp2_with fail
  refine (unhide C3).mono ?_
  rintro e w6 ⟨v6, rfl, ho6, hb6⟩
  obtain ⟨A6, c6, rfl⟩ := own_slice ho6
  have HP := hide (fun w' (hb : Below w6.heap.size w6 w') => rd_own (own_below ho6 hb (Nat.le_refl _)))
  have C4 := hide (unhide CU A5 m5 c5 w6 (unhide HS w6 hb6) hq5)
  clear C3 ho6
  go_wp2_with fail
  refine (unhide C4).mono ?_
  rintro e w7 ⟨v7, rfl, ho7, hb7⟩
  obtain ⟨A7, c7, rfl⟩ := own_slice ho7
  have C5 := hide (ints_any A6 A7 6 6 c6 c7 PV PV w7 (unhide HP w7 hb7) (rd_own ho7) (by omega))
  rw [decide_eq_true (rfl : PV = PV)] at C5
  have hb57 := hb5.trans ((hb6.trans (hb7.mono hb6.size)).mono hb5.size)
  clear C4 ho7
  go_wp2_with fail
  refine (unhide C5).mono ?_
  rintro e w8 ⟨rfl, hb8⟩
  have hb48 := hb57.trans (hb8.mono hb57.size)
  have hb38 := hb4.trans (hb48.mono hb4.size)
  have hbw8 := hbw3.trans (hb38.mono hbw3.size)
  have hrv := unhide HV w8 hb38
  have hro := unhide HO w8 hb48
  clear hb4 hb5 hb6 hb7 hb8 hb45 hb57 hb48 hb38 C5 CO CR CV CU HT HP HS
  go_wp2
  go_loopw [20] (fun s20 wr => ∃ i : Nat, i ≤ m4 ∧ s20 = .int .i64 i ∧ wr = w8) (fun s20 _ => m4 - (intOf s20).toNat)
  case atStart => exact ⟨0, Nat.zero_le _, rfl, rfl⟩
  case round =>
    obtain ⟨i, hi, rfl, rfl⟩ := hrel
    by_cases hlt : i < m4
    · obtain ⟨b, off, x, he, hb, hx, c0⟩ := hro.int (k := i) hlt
      cases he
      have C6 := hide (rin_any B3 nv d3 V x wr wr.heap.size hrv (by omega))
      rw [decide_eq_false (HNOT.out x (List.mem_of_getElem? hx))] at C6
      have hltI : (i : Int) < (m4 : Int) := by omega
      clear hx
      go_wp2_with fail
      refine (unhide C6).mono ?_
      rintro e w9 ⟨rfl, rfl⟩
      go_wp2
      go_roundw
      case rel => exact ⟨i + 1, by omega, by go_num, trivial⟩
      case measure => simp [intOf]; omega
    · obtain rfl : i = m4 := by omega
      go_wp2
      go_ret
      exact ⟨rfl, hbw8⟩
theorem own : ownKnob Tryz.prog.godebug = none := by kernel_rfl
theorem bytes_ops : Tryz.prog.bytesOf 54 = 24 := by kernel_rfl

/-! ### The row. -/
set_option maxRecDepth 100000 in
theorem lifted (os : Os) (started : os.Started) (H : Type) (enc : TypeId × Value → H) :
    ReturnsInHanded {} Tryz.checked os 3 .any (Rows.topMixedSpec.pre6 enc Tryz.prog Tryz.f3 Rows.topMixedRow.domain false) (Rows.topMixedSpec.post enc Tryz.prog Tryz.f3 false true false false) := by
  refine returnsInHanded_of_change_sized (C := Tryz.checked) own started (by kernel_rfl) Tryz.func3
    (ChangeSpec.witness6 (enc := enc) (C := Tryz.checked) false ⟨#[], #[.slice none 0 0, .int .i64 0, .int .i64 0], []⟩ 8 (by kernel_rfl) (by kernel_rfl) (by kernel_rfl) (by kernel_rfl)) ?_
  intro W base args ds gs before hval0 hW hcnd hsz0 _
  have hval : ∀ (j : Nat) t v, Tryz.f3.params[j]? = some t → args[j]? = some v → Value.okWide Tryz.prog W .any base t v := hval0
  have hW' := hW
  obtain ⟨p, q, hA0, hV, rfl, hfz, hnd⟩ := hW
  have hA : DataW.TrodAll enc Tryz.prog W 0 (fun _ => true) true Tryz.f3.params.toList args.toList ds p := hA0
  have hsz : (DataW.weightsEach Tryz.prog (Tryz.f3.params.toList ++ Rows.topMixedSpec.plain.varTypes Tryz.prog) (ds ++ gs)).all (· ≤ reachBytes) = true := hsz0
  rw [Tryz.params3] at hA hval hsz
  obtain ⟨v0, vs0, d0, ds0, p0, q0, hargs, rfl, rfl, h0, r0⟩ := trodAll_cons hA
  obtain ⟨v1, vs1, d1, ds1, p1, q1, rfl, rfl, rfl, h1, r1⟩ := trodAll_cons r0
  obtain ⟨v2, vs2, d2, ds2, p2, q2, rfl, rfl, rfl, h2, r2⟩ := trodAll_cons r1
  obtain ⟨rfl, rfl, rfl⟩ := trodAll_nil r2
  obtain rfl : args = #[v0, v1, v2] := by cases args; simp_all
  obtain ⟨rfl, rfl⟩ := trodVars_none hV
  simp only [List.append_nil] at hW'
  have hk0 := h0
  have hlt0 : ∀ x ∈ p0, x.block < W.heap.size := fun x hx => hW'.lt x (by simp [hx])
  obtain ⟨A0, n0, c0, l0, rfl, rd0, bd0⟩ := open_ops Tryz.underlying22 Tryz.underlying54 Tryz.underlying3 rfl rfl rfl (by kernel_rfl) (by kernel_rfl) (hval 0 22 v0 rfl rfl) h0 (fun e s he => by have := sized_slice hsz (j := 0) (t := 22) (e := 54) rfl (congrArg some he) Tryz.underlying22; rwa [bytes_ops] at this)
  obtain ⟨a1, rfl, rfl, rfl, w1⟩ := open_int Tryz.underlying3 (hval 1 3 v1 rfl rfl) h1
  obtain ⟨a2, rfl, rfl, rfl, w2⟩ := open_int Tryz.underlying3 (hval 2 3 v2 rfl rfl) h2
  clear hA0 hval0
  refine (walk A0 n0 c0 l0 a1 a2 W rd0 bd0).mono fun e W' ⟨he, hg⟩ => ?_
  subst he
  exact ⟨_, rfl, post_slices (pa := _) (pv := []) hW' hg (by simp) (fun _ _ _ => (trodAll_cons_mk (shut_bool Tryz.underlying4 _) trodAll_mk0)) (trodAll_cons_mk (Below.trod laidOut (by kernel_rfl) (of_decide_eq_true (by kernel_rfl)) hk0 hg hlt0) (trodAll_cons_mk (shut_int Tryz.underlying3 w1) (trodAll_cons_mk (shut_int Tryz.underlying3 w2) trodAll_mk0))) rfl⟩

theorem over : Rows.topMixedRow.holds Tryz.pinned (OpenSpec.ofChange Rows.topMixedSpec) :=
  OpenClaim.holds_of_wide 3 Tryz.f3 rfl rfl rfl rfl rfl rfl rfl ⟨rfl, rfl, rfl, rfl, rfl⟩ rfl rfl rfl rfl rfl (by kernel_rfl) Tryz.func3 (by kernel_rfl)
    (of_decide_eq_true (by kernel_rfl)) (by unfold Func.isWrapper; first | (rw [if_pos (by decide +kernel)]; kernel_rfl) | (rw [if_neg (by decide +kernel)]; exact ⟨rfl, rfl⟩))
    (fun os started H enc _ => lifted os started H enc)

/-- The statement. -/
theorem proved : Rows.TopMixedSaid :=
  over
#print axioms proved
end Go.Proofs.YtmehghkpghbpjaaGreat.topMixed

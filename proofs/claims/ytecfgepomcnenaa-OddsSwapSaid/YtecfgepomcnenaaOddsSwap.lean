
/-
  PROVED: lanelaw1.OddsSwap returns true, for every history and every number: with two ops that changed places a history is the same, has the same edges, and comes to the same; changed back it is itself. No condition beyond the form's own reach.
-/
import Derived.Test.YtecfgepomcnenaaSwapP
import Derived.Test.YtecfgepomcnenaaEdgesOf
import Derived.Test.YtecfgepomcnenaaSameH
import Derived.Test.YtecfgepomcnenaaEdgesS
import Derived.Test.YtecfgepomcnenaaPieces
import Derived.Test.YtecfgepomcnenaaOpen
namespace Go.Proofs.Ytecfgepomcnenaa.oddsSwap
open Go.ChangeShapes Go.WideShapes Go.ChangeAt Go.RowKit Go.Proofs.Ytecfgepomcnenaa

/-! ### The plain law. -/
def oneH : List HOp := [⟨1, 1, 1⟩, ⟨2, 2, 2⟩]
theorem fact : okH oneH := by
  have : (checkF oneH).2 = 0 := by decide +kernel
  exact this
theorem swapL_eq {h : List HOp} {i : Nat} {a b : HOp} (ha : h[i]? = some a) (hb : h[i + 1]? = some b) : swapL h i = (h.set i b).set (i + 1) a := by
  unfold swapL
  rw [ha, hb]
theorem swap_law {h : List HOp} (hk : okH h) {i : Nat} {a b : HOp} (ha : h[i]? = some a) (hb : h[i + 1]? = some b) (ht : a.tx ≠ b.tx) (hq : oddB a b = false) :
    Sw h (swapL h i) ∧ okH (swapL h i) ∧ (swapL h i)[i]? = some b ∧ (swapL h i)[i + 1]? = some a ∧ swapL (swapL h i) i = h ∧ sameV h (swapL h i) = true ∧ sameE h (swapL h i) = 0 ∧ edgesF (swapL h i) = edgesF h ∧ (playF (swapL h i)).1 = (playF h).1 := by
  obtain ⟨e1, e2⟩ := swap_lists ha hb
  have hl := (List.getElem?_eq_some_iff.1 hb).1
  have hs : Sw h (swapL h i) := by
    rw [swapL_eq ha hb, e2]
    conv => lhs; rw [e1]
    exact Sw.one ht hq
  have hg := okH_sw hs hk
  have h1 : (swapL h i)[i]? = some b := by
    rw [swapL_eq ha hb, List.getElem?_set_ne (by omega), List.getElem?_set_self (by omega)]
  have h2 : (swapL h i)[i + 1]? = some a := by
    rw [swapL_eq ha hb, List.getElem?_set_self (by simpa using hl)]
  have h3 : swapL (swapL h i) i = h := by
    rw [swapL_eq h1 h2]
    have e3 : (swapL h i).set i a = (h.set i a).set (i + 1) a := by
      rw [swapL_eq ha hb, List.set_comm _ _ (by omega), List.set_set]
    rw [e3, List.set_set, set_same ha, set_same hb]
  have h4 : alikeB h (swapL h i) = true := (alike_iff_sw (okH_tx hk) (okH_tx hg)).2 hs
  refine ⟨hs, hg, h1, h2, h3, ?_, ?_, (edgesF_sw hs (okH_tx hk)).symm, (playF_sw hs (okH_right hk)).symm⟩
  · unfold sameV
    rw [h4, show (checkF h).2 = 0 from hk, show (checkF (swapL h i)).2 = 0 from hg]; rfl
  · unfold sameE
    rw [show (checkF h).2 = 0 from hk, show (checkF (swapL h i)).2 = 0 from hg]; rfl

/-! ### The walk. -/
def Fin (w : World) (e : Ending) (w' : World) : Prop := e = .returned (.bool true) ∧ Below w.heap.size w w'
set_option maxRecDepth 100000 in
set_option maxHeartbeats 8000000 in
theorem walk (A : Option Addr) (n c : Nat) (h : List HOp) (i : Int) (w : World) (hr : Rd w w.heap.size 3 A n (cellsH h)) (hn : n * 24 ≤ 140737488351232) :
    Calls Try.prog 3 #[.slice A n c, .int .i64 i] w fun e w' => e = .returned (.bool true) ∧ Below w.heap.size w w' := by
  have hm : n ≤ 6000000000000 := by omega
  have HLH := Lib.hid hr.hlen
  have HR := hide (fun w1 (hb : Below w.heap.size w w1) => (hr.below hb).more hb.size)
  have hb0 : Below w.heap.size w (w.alloc (.cells (cellsH oneH).toArray 24)) := (Below.refl _ _).alloc (Nat.le_refl _) _
  have C1 := hide (swap_ok (some ⟨w.heap.size, 0, none⟩) 2 2 oneH 0 (w.alloc (.cells (cellsH oneH).toArray 24)) ((rd_new w 24 (size := 3) (n := 2) (cellsH oneH) rfl).more (by simp)) fact (by omega) ⟨1, 1, 1⟩ ⟨2, 2, 2⟩ rfl rfl (by decide) (by decide))
  rw [show swapL oneH 0 = [⟨2, 2, 2⟩, ⟨1, 1, 1⟩] from rfl] at C1
  have HB0 := hide hb0
  clear hb0 hn hr
  go_enter Try.func3, Try.ntmps3
  go_wp2_with fail
  refine (unhide C1).mono ?_
  rintro e w1 ⟨v1, rfl, ho1, hb1⟩
  have hbw1 := (unhide HB0).trans (hb1.mono (unhide HB0).size)
  obtain ⟨A1, c1, rfl⟩ := own_slice ho1
  obtain ⟨b, off, x, he, _, hx, q0, q1, q2⟩ := (rd_own ho1).op (k := 0) (by omega)
  cases he
  cases hx
  rw [Nat.zero_mul, Nat.add_zero] at q0
  clear C1 HB0 hb1 ho1 q1 q2
  by_cases hok : okH h
  · by_cases hi : i < 0 ∨ (n : Int) - 1 ≤ i
    · have C2 := hide (swap_range A n c h i w1 (unhide HR w1 hbw1) hok hi)
      clear hok hi
      go_wp2_with fail
      refine (unhide C2).mono ?_
      rintro e w2 ⟨rfl, hb2⟩
      go_wp2
      go_ret
      exact ⟨rfl, hbw1.trans (hb2.mono hbw1.size)⟩
    · obtain ⟨k, rfl⟩ : ∃ k : Nat, i = k := ⟨i.toNat, by omega⟩
      have hk : k + 1 < n := by omega
      have ha : h[k]? = some (h[k]'(by rw [HLH.out]; omega)) := List.getElem?_eq_getElem _
      have hb : h[k + 1]? = some (h[k + 1]'(by rw [HLH.out]; omega)) := List.getElem?_eq_getElem _
      generalize h[k]'(by rw [HLH.out]; omega) = a at *
      generalize h[k + 1]'(by rw [HLH.out]; omega) = b2 at *
      by_cases hc : a.tx = b2.tx ∨ oddB a b2 = true
      · have C2 := hide (swap_clash A n c h k w1 (unhide HR w1 hbw1) hok hk a b2 ha hb hc)
        clear hok hi ha hb hc
        go_wp2_with fail
        refine (unhide C2).mono ?_
        rintro e w2 ⟨rfl, hb2⟩
        go_wp2
        go_ret
        exact ⟨rfl, hbw1.trans (hb2.mono hbw1.size)⟩
      · have ht : a.tx ≠ b2.tx := fun e => hc (.inl e)
        have hq : oddB a b2 = false := by simpa using fun e => hc (.inr e)
        obtain ⟨_, hg, h1, h2, h3, h4, h5, h6, h7⟩ := swap_law hok ha hb ht hq
        have hq2 : oddB b2 a = false := by rw [oddB_comm]; exact hq
        have C2 := hide (swap_ok A n c h k w1 (unhide HR w1 hbw1) hok hk a b2 ha hb ht hq)
        have hn40 : n ≤ 40 := by rw [← HLH.out]; exact okH_len hok
        have CS := hide (fun A2 c2 w2 hr2 (hb : Below w.heap.size w w2) => same_any A A2 n n c c2 h (swapL h k) w2 (unhide HR w2 hb) hr2 hm hm)
        rw [h4, h5, errV_zero] at CS
        have CB := hide (fun A2 c2 w2 hr2 => swap_ok A2 n c2 (swapL h k) k w2 hr2 hg hk b2 a h1 h2 (fun e => ht e.symm) hq2)
        rw [h3] at CB
        have CE1 := hide (fun w2 (hb : Below w.heap.size w w2) => edges_any A n c h w2 (unhide HR w2 hb) hm hok)
        have CE2 := hide (fun A2 c2 w2 hr2 => edges_any A2 n c2 (swapL h k) w2 hr2 hm hg)
        rw [h6] at CE2
        have CV1 := hide (fun w2 (hb : Below w.heap.size w w2) => (values_any A n c h w2 (unhide HR w2 hb) hm).1 hok)
        have CV2 := hide (fun A2 c2 w2 hr2 => (values_any A2 n c2 (swapL h k) w2 hr2 hm).1 hg)
        rw [h7] at CV2
        clear hok hi ha hb hc ht hq hq2 hg h1 h2 h3 h4 h5 h6 h7
        generalize swapL h k = g at *
        go_wp2_with fail
        refine (unhide C2).mono ?_
        rintro e w2 ⟨v2, rfl, ho2, hb2⟩
        obtain ⟨A2, c2, rfl⟩ := own_slice ho2
        have hbw2 := hbw1.trans (hb2.mono hbw1.size)
        have hd2 := rd_own ho2
        have K2 := hide (fun w' (hb : Below w2.heap.size w2 w') => And.intro (hbw2.trans (hb.mono hbw2.size)) ((hd2.below hb).more hb.size))
        have C3 := hide (unhide CS A2 c2 w2 hd2 hbw2)
        clear C2 hb2 ho2 hd2 hbw2 hbw1 CS
        go_wp2_with fail
        refine (unhide C3).mono ?_
        rintro e w3 ⟨rfl, hb3⟩
        have K3 := hide (fun w' (hb : Below w3.heap.size w3 w') => unhide K2 w' (hb3.trans (hb.mono hb3.size)))
        have C4 := hide (unhide CB A2 c2 w3 (unhide K3 w3 (Below.refl _ _)).2)
        clear C3 K2 hb3 CB
        go_wp2_with fail
        refine (unhide C4).mono ?_
        rintro e w4 ⟨v4, rfl, ho4, hb4⟩
        obtain ⟨A4, c4, rfl⟩ := own_slice ho4
        have hd4 := rd_own ho4
        have K4 := hide (fun w' (hb : Below w4.heap.size w4 w') => And.intro (unhide K3 w' (hb4.trans (hb.mono hb4.size))) ((hd4.below hb).more hb.size))
        have C5 := hide (unhide CE1 w4 (unhide K4 w4 (Below.refl _ _)).1.1)
        clear C4 K3 hb4 ho4 hd4 CE1
        go_wp2_with fail
        refine (unhide C5).mono ?_
        rintro e w5 ⟨v5, m5, rfl, ho5, hm5, hb5⟩
        obtain ⟨A5, c5, rfl⟩ := own_slice ho5
        have hd5 := rd_own ho5
        have K5 := hide (fun w' (hb : Below w5.heap.size w5 w') => And.intro (unhide K4 w' (hb5.trans (hb.mono hb5.size))) ((hd5.below hb).more hb.size))
        have C6 := hide (unhide CE2 A2 c2 w5 (unhide K5 w5 (Below.refl _ _)).1.1.2)
        clear C5 K4 hb5 ho5 hd5 CE2
        go_wp2_with fail
        refine (unhide C6).mono ?_
        rintro e w6 ⟨v6, m6, rfl, ho6, hm6, hb6⟩
        obtain ⟨A6, c6, rfl⟩ := own_slice ho6
        have hd6 := rd_own ho6
        have K6 := hide (fun w' (hb : Below w6.heap.size w6 w') => And.intro (unhide K5 w' (hb6.trans (hb.mono hb6.size))) ((hd6.below hb).more hb.size))
        have C7 := hide (unhide CV1 w6 (unhide K6 w6 (Below.refl _ _)).1.1.1.1)
        clear C6 K5 hb6 ho6 hd6 CV1
        go_wp2_with fail
        refine (unhide C7).mono ?_
        rintro e w7 ⟨v7, rfl, ho7, hb7⟩
        obtain ⟨A7, c7, rfl⟩ := own_slice ho7
        have hd7 := rd_own ho7
        have K7 := hide (fun w' (hb : Below w7.heap.size w7 w') => And.intro (unhide K6 w' (hb7.trans (hb.mono hb7.size))) ((hd7.below hb).more hb.size))
        have C8 := hide (unhide CV2 A2 c2 w7 (unhide K7 w7 (Below.refl _ _)).1.1.1.1.2)
        clear C7 K6 hb7 ho7 hd7 CV2
        go_wp2_with fail
        refine (unhide C8).mono ?_
        rintro e w8 ⟨v8, rfl, ho8, hb8⟩
        obtain ⟨A8, c8, rfl⟩ := own_slice ho8
        have hd8 := rd_own ho8
        have K8 := hide (fun w' (hb : Below w8.heap.size w8 w') => And.intro (unhide K7 w' (hb8.trans (hb.mono hb8.size))) ((hd8.below hb).more hb.size))
        clear C8 K7 hb8 ho8 hd8
        have k8 := unhide K8 w8 (Below.refl _ _)
        have C9 := hide (ops_any A4 A n n c4 c h h w8 k8.1.1.1.1.2 (unhide HR w8 k8.1.1.1.1.1.1) (by omega))
        rw [decide_eq_true rfl] at C9
        clear k8
        go_wp2_with fail
        refine (unhide C9).mono ?_
        rintro e w9 ⟨rfl, hb9⟩
        have k9 := unhide K8 w9 hb9
        have C10 := hide (edgesS_any A5 A6 m5 m6 c5 c6 (edgesF h) (edgesF h) w9 k9.1.1.1.2 k9.1.1.2 (by omega))
        rw [decide_eq_true rfl] at C10
        clear k9
        go_wp2_with fail
        refine (unhide C10).mono ?_
        rintro e w10 ⟨rfl, hb10⟩
        have k10 := unhide K8 w10 (hb9.trans (hb10.mono hb9.size))
        have C11 := hide (ints_any A7 A8 6 6 c7 c8 (playF h).1 (playF h).1 w10 k10.1.2 k10.2 (by omega))
        rw [decide_eq_true rfl] at C11
        clear k10
        go_wp2_with fail
        refine (unhide C11).mono ?_
        rintro e w11 ⟨rfl, hb11⟩
        have k11 := (unhide K8 w11 ((hb9.trans (hb10.mono hb9.size)).trans (hb11.mono (hb9.trans (hb10.mono hb9.size)).size))).1.1.1.1.1.1
        go_wp2
        go_ret
        exact ⟨rfl, k11⟩
  · have C2 := hide (swap_no A n c h i w1 (unhide HR w1 hbw1) hm hok)
    rw [ne_errV (show (checkF h).2 ≠ 0 from hok)] at C2
    generalize (checkF h).2 = ev at *
    clear hok
    go_wp2_with fail
    refine (unhide C2).mono ?_
    rintro e w2 ⟨rfl, hb2⟩
    go_wp2
    go_ret
    exact ⟨rfl, hbw1.trans (hb2.mono hbw1.size)⟩
theorem own : ownKnob Try.prog.godebug = none := by kernel_rfl
theorem bytes_ops : Try.prog.bytesOf 24 = 24 := by kernel_rfl

/-! ### The row. -/
set_option maxRecDepth 100000 in
theorem lifted (os : Os) (started : os.Started) (H : Type) (enc : TypeId × Value → H) :
    ReturnsInHanded {} Try.checked os 3 .any (Rows.oddsSwapSpec.pre6 enc Try.prog Try.f3 Rows.oddsSwapRow.domain false) (Rows.oddsSwapSpec.post enc Try.prog Try.f3 false true false false) := by
  refine returnsInHanded_of_change_sized (C := Try.checked) own started (by kernel_rfl) Try.func3
    (ChangeSpec.witness6 (enc := enc) (C := Try.checked) false ⟨#[], #[.slice none 0 0, .int .i64 0], []⟩ 8 (by kernel_rfl) (by kernel_rfl) (by kernel_rfl) (by kernel_rfl)) ?_
  intro W base args ds gs before hval0 hW hcnd hsz0 _
  have hval : ∀ (j : Nat) t v, Try.f3.params[j]? = some t → args[j]? = some v → Value.okWide Try.prog W .any base t v := hval0
  have hW' := hW
  obtain ⟨p, q, hA0, hV, rfl, hfz, hnd⟩ := hW
  have hA : DataW.TrodAll enc Try.prog W 0 (fun _ => true) true Try.f3.params.toList args.toList ds p := hA0
  have hsz : (DataW.weightsEach Try.prog (Try.f3.params.toList ++ Rows.oddsSwapSpec.plain.varTypes Try.prog) (ds ++ gs)).all (· ≤ reachBytes) = true := hsz0
  rw [Try.params3] at hA hval hsz
  obtain ⟨v0, vs0, d0, ds0, p0, q0, hargs, rfl, rfl, h0, r0⟩ := trodAll_cons hA
  obtain ⟨v1, vs1, d1, ds1, p1, q1, rfl, rfl, rfl, h1, r1⟩ := trodAll_cons r0
  obtain ⟨rfl, rfl, rfl⟩ := trodAll_nil r1
  obtain rfl : args = #[v0, v1] := by cases args; simp_all
  obtain ⟨rfl, rfl⟩ := trodVars_none hV
  simp only [List.append_nil] at hW'
  have hk0 := h0
  have hlt0 : ∀ x ∈ p0, x.block < W.heap.size := fun x hx => hW'.lt x (by simp [hx])
  obtain ⟨A0, n0, c0, l0, rfl, rd0, bd0⟩ := open_ops Try.underlying22 Try.underlying24 Try.underlying3 rfl rfl rfl (by kernel_rfl) (by kernel_rfl) (hval 0 22 v0 rfl rfl) h0 (fun e s he => by have := sized_slice hsz (j := 0) (t := 22) (e := 24) rfl (congrArg some he) Try.underlying22; rwa [bytes_ops] at this)
  obtain ⟨a1, rfl, rfl, rfl, w1⟩ := open_int Try.underlying3 (hval 1 3 v1 rfl rfl) h1
  clear hA0 hval0
  refine (walk A0 n0 c0 l0 a1 W rd0 bd0).mono fun e W' ⟨he, hg⟩ => ?_
  subst he
  exact ⟨_, rfl, post_slices (pa := _) (pv := []) hW' hg (by simp) (fun _ _ _ => (trodAll_cons_mk (shut_bool Try.underlying4 _) trodAll_mk0)) (trodAll_cons_mk (Below.trod laidOut (by kernel_rfl) (of_decide_eq_true (by kernel_rfl)) hk0 hg hlt0) (trodAll_cons_mk (shut_int Try.underlying3 w1) trodAll_mk0)) rfl⟩

theorem over : Rows.oddsSwapRow.holds Try.pinned (OpenSpec.ofChange Rows.oddsSwapSpec) :=
  OpenClaim.holds_of_wide 3 Try.f3 rfl rfl rfl rfl rfl rfl rfl ⟨rfl, rfl, rfl, rfl, rfl⟩ rfl rfl rfl rfl rfl (by kernel_rfl) Try.func3 (by kernel_rfl)
    (of_decide_eq_true (by kernel_rfl)) (by unfold Func.isWrapper; first | (rw [if_pos (by decide +kernel)]; kernel_rfl) | (rw [if_neg (by decide +kernel)]; exact ⟨rfl, rfl⟩))
    (fun os started H enc _ => lifted os started H enc)

/-- The statement. -/
theorem proved : Rows.OddsSwapSaid :=
  over
#print axioms proved
end Go.Proofs.Ytecfgepomcnenaa.oddsSwap


/-
  PROVED: lanelaw4.OddsReaders returns true, for all its arguments: of histories without a write there are no pairs, and any two ops of unlike deals may change places. The variable errors.errorType starts as the program's text lays it (the card's tie); no condition beyond the form's own reach.
-/
import Derived.Test.YtoboecppilmnnaaDoorPairs
import Derived.Test.YtoboecppilmnnaaDoorSwap
import Derived.Test.YtoboecppilmnnaaDoorSrc
import Derived.Test.YtoboecppilmnnaaDoorDoor
namespace Go.Proofs.YtoboecppilmnnaaDoor.oddsReaders
open Go.ChangeShapes Go.WideShapes Go.ChangeAt Go.RowKit Go.Proofs.YtoboecppilmnnaaDoor

/-! ### The plain law. -/
def noW (h : List HOp) : List HOp := h.filter fun o => decide (o.what ≠ 2)
theorem noW_snoc {h : List HOp} {k : Nat} {o : HOp} (ho : h[k]? = some o) : noW (h.take (k + 1)) = noW (h.take k) ++ (if o.what ≠ 2 then [o] else []) := by
  unfold noW
  rw [take_snoc ho, List.filter_append]
  by_cases h2 : o.what = 2 <;> simp [h2]
theorem noW_mem {h : List HOp} : ∀ o ∈ noW h, o.what ≠ 2 := fun o ho => by
  unfold noW at ho
  have := (List.mem_filter.1 ho).2
  simpa using this
theorem odd_no {a b : HOp} (ha : a.what ≠ 2) (hb : b.what ≠ 2) : oddB a b = false := by simp [oddB, ha, hb]
theorem pairsAt_no {a : HOp} {i : Nat} (ha : a.what ≠ 2) : ∀ {l : List HOp} {k : Nat}, (∀ o ∈ l, o.what ≠ 2) → pairsAt a i k l = []
  | [], _, _ => rfl
  | b :: t, k, h => by rw [pairsAt, odd_no ha (h b (by simp)), pairsAt_no ha fun o ho => h o (by simp [ho])]; rfl
theorem pairsGo_no : ∀ {l : List HOp} {i : Nat}, (∀ o ∈ l, o.what ≠ 2) → pairsGo i l = []
  | [], _, _ => rfl
  | a :: t, i, h => by rw [pairsGo, pairsAt_no (h a (by simp)) fun o ho => h o (by simp [ho]), pairsGo_no fun o ho => h o (by simp [ho])]; rfl
def twoH : List HOp := [⟨1, 1, 1⟩, ⟨2, 2, 1⟩]
theorem fact : okH twoH ∧ pairsL twoH = [(0, 1)] := ⟨by show (checkF _).2 = 0; decide, by decide⟩
theorem own_dlen {w : World} {base : Nat} {e : TypeId} {v : Value} {n : Nat} {l : List (Int × Int)} (h : w.ownsRow base e 2 v n (dcells l)) : n = l.length := by
  have := h.1
  rw [dcells_length] at this; omega

/-! ### The walk. -/
set_option maxRecDepth 100000 in
set_option maxHeartbeats 8000000 in
theorem walk (A : Option Addr) (n c : Nat) (h : List HOp) (i : Int) (w : World) (hE : Et w) (hr : Rd w w.heap.size 3 A n (cellsH h)) (hn : n * 24 ≤ 140737488351232) :
    Calls Tryd.prog 6 #[.slice A n c, .int .i64 i] w fun e w' => e = .returned (.bool true) ∧ Below w.heap.size w w' := by
  have hz0 := hE.pos
  have HE := hide hE
  have HLEN := Lib.hid hr.hlen
  have hb0 : Below w.heap.size w (w.alloc (.cells (cellsH twoH).toArray 24)) := (Below.refl _ _).alloc (Nat.le_refl _) _
  have CT0 := hide (pairs_ok (some ⟨w.heap.size, 0, none⟩) 2 2 twoH _ ((rd_new w 24 (size := 3) (n := 2) (cellsH twoH) rfl).more (by simp)) fact.1)
  rw [fact.2] at CT0
  clear hE
  go_enter Tryd.func6, Tryd.ntmps6
  go_wp2_with fail
  refine (unhide CT0).mono ?_
  rintro e w1 ⟨v1, m1, rfl, ho1, _, hb1⟩
  obtain rfl : m1 = 1 := own_dlen ho1
  obtain ⟨A1, c1, rfl⟩ := own_slice ho1
  have hbw1 := hb0.trans (hb1.mono hb0.size)
  clear hb0 hb1 ho1 CT0
  go_wp2
  go_loopw [7, 8] (fun s7 s8 wr => ∃ k m : Nat, k ≤ n ∧ s8 = .int .i64 k ∧ wr.ownsRow w.heap.size 24 3 s7 m (cellsH (noW (h.take k))) ∧ m ≤ k ∧ Below w.heap.size w wr) (fun _ s8 _ => n - (intOf s8).toNat)
  case atStart => exact ⟨0, 0, Nat.zero_le _, rfl, World.ownsRow_nil _ _ _ _, Nat.zero_le _, hbw1⟩
  case round =>
    clear hbw1
    obtain ⟨k, m, hk, rfl, ho7, hmk, hbw⟩ := hrel
    obtain ⟨A7, c7, rfl⟩ := own_slice ho7
    by_cases hlt : k < n
    · obtain ⟨b, off, o, he, hb, ho, e0, e1, e2⟩ := (hr.below hbw).op (k := k) (by omega)
      have HS := Lib.hid (noW_snoc ho)
      cases he
      clear ho
      obtain ⟨p1, p2, p3⟩ := o
      simp only at e0 e1 e2
      by_cases hw : p2 = 2
      · have HS2 : Hid (noW (h.take (k + 1)) = noW (h.take k)) := Lib.hid (by rw [HS.out]; simp [hw])
        have hwb : (p2 != 2) = false := by simpa using hw
        clear hw HS
        go_wp2
        go_roundw
        case rel => exact ⟨k + 1, m, by omega, by go_num, by rw [HS2.out]; exact ho7, by omega, hbw⟩
        case measure => simp [intOf]; omega
      · have HS2 : Hid (noW (h.take (k + 1)) = noW (h.take k) ++ [⟨p1, p2, p3⟩]) := Lib.hid (by rw [HS.out]; simp [hw])
        have hwb : (p2 != 2) = true := by simpa using hw
        have hz := hbw.size
        clear hw HS
        go_wp2_with (at_builtin; (refine wpList_app rfl (.tmp 40) (.tmp 45) _ rfl w.heap.size slt_op (n := m) (xs := cellsH (noW (h.take k))) (m := 1) (news := cellsH [⟨p1, p2, p3⟩]) rfl (own_alloc ho7 _) rfl (rd_new' _ _ (cellsH [⟨p1, p2, p3⟩]) (by simp) rfl) (oneH _) (by omega) (by simp; omega) ?_; intro v5 w5 hown5 hg5 hb5 hat5 hne5))
        rw [← cellsH_append, ← HS2.out] at hown5
        have hbw5 := (hbw.alloc hz (.cells (cellsH [⟨p1, p2, p3⟩]).toArray 24)).trans hb5
        go_roundw
        case rel => exact ⟨k + 1, m + 1, by omega, by go_num, hown5, by omega, hbw5⟩
        case measure => simp [intOf]; omega
    · obtain rfl : k = n := by omega
      have HLL : Hid (h.take k = h) := Lib.hid (List.take_of_length_le (by rw [HLEN.out]; omega))
      rw [HLL.out] at ho7
      have hd7 := rd_own ho7
      have HNW := Lib.hid (@noW_mem h)
      generalize noW h = l at *
      have hlen := hd7.hlen
      have HLN := Lib.hid hlen
      clear hlen ho7 hlt hk
      by_cases hok : okH l
      rotate_left
      · have CP := hide (pairs_no A7 m c7 l wr hd7 (by omega) hok)
        rw [ne_errV (show (checkF l).2 ≠ 0 from hok)] at CP
        generalize (checkF l).2 = ev at *
        clear hok
        go_wp2_with fail
        refine (unhide CP).mono ?_
        rintro e w2 ⟨rfl, hb2⟩
        have hbw2 := hbw.trans (hb2.mono hbw.size)
        go_wp2
        go_ret
        exact ⟨rfl, hbw2⟩
      have hm40 : m ≤ 40 := by rw [← HLN.out]; exact okH_len hok
      have CP := hide (pairs_ok A7 m c7 l wr hd7 hok)
      rw [show pairsL l = [] from pairsGo_no HNW.out] at CP
      go_wp2_with fail
      refine (unhide CP).mono ?_
      rintro e w2 ⟨v2, m2, rfl, ho2, _, hb2⟩
      obtain rfl : m2 = 0 := own_dlen ho2
      obtain ⟨A2, c2, rfl⟩ := own_slice ho2
      have hbw2 := hbw.trans (hb2.mono hbw.size)
      have hd2 := (hd7.below hb2).more hb2.size
      clear CP hb2 ho2 hbw hd7
      by_cases hi : i < 0 ∨ (m : Int) - 1 ≤ i
      · have CS := hide (swap_range A7 m c7 l i w2 hd2 hok hi)
        clear hi
        go_wp2_with fail
        refine (unhide CS).mono ?_
        rintro e w3 ⟨rfl, hb3⟩
        have hbw3 := hbw2.trans (hb3.mono hbw2.size)
        have ER := error_any 1 7 w3 ((unhide HE).below hbw3 hz0)
        rw [decide_eq_false (by decide), show errV 1 = .iface 86 (.int .i64 1) from rfl] at ER
        have HER := hide ER
        clear ER hb3 CS
        go_wp2_with fail
        refine (unhide HER).mono ?_
        rintro e w4 ⟨rfl, hb4⟩
        have hbw4 := hbw3.trans (hb4.mono hbw3.size)
        go_wp2
        go_quiet (fail)
        go_wp2
        go_ret
        exact ⟨rfl, below_drewN hbw4 _⟩
      obtain ⟨j, rfl⟩ : ∃ j : Nat, i = j := ⟨i.toNat, by omega⟩
      have hj : j + 1 < m := by omega
      clear hi
      obtain ⟨a, ha⟩ : ∃ a, l[j]? = some a := ⟨_, List.getElem?_eq_getElem (by rw [HLN.out]; omega)⟩
      obtain ⟨b, hb⟩ : ∃ b, l[j + 1]? = some b := ⟨_, List.getElem?_eq_getElem (by rw [HLN.out]; omega)⟩
      have hodd := odd_no (HNW.out a (List.mem_of_getElem? ha)) (HNW.out b (List.mem_of_getElem? hb))
      by_cases htx : a.tx = b.tx
      · have CS := hide (swap_clash A7 m c7 l j w2 hd2 hok hj a b ha hb (.inl htx))
        have HHA := Lib.hid ha
        have HHB := Lib.hid hb
        have HTX := Lib.hid htx
        clear ha hb hodd htx hok
        go_wp2_with fail
        refine (unhide CS).mono ?_
        rintro e w3 ⟨rfl, hb3⟩
        have hbw3 := hbw2.trans (hb3.mono hbw2.size)
        have hd3 := (hd2.below hb3).more hb3.size
        have ER := error_any 7 7 w3 ((unhide HE).below hbw3 hz0)
        rw [decide_eq_true rfl, show errV 7 = .iface 86 (.int .i64 7) from rfl] at ER
        have HER := hide ER
        clear ER hb3 CS hd2 hbw2
        go_wp2_with fail
        refine (unhide HER).mono ?_
        rintro e w4 ⟨rfl, hb4⟩
        have hbw4 := hbw3.trans (hb4.mono hbw3.size)
        have hd4 := (hd3.below hb4).more hb4.size
        obtain ⟨bb, off, o, he, hbb, ho, c0, _, _⟩ := hd4.op (k := j) (by omega)
        cases he
        obtain rfl : a = o := by have := HHA.out; rw [ho] at this; exact (Option.some.inj this).symm
        obtain ⟨bb', off', o, he, hbb', ho', d0, _, _⟩ := hd4.op (k := j + 1) (by omega)
        cases he
        obtain rfl : b = o := by have := HHB.out; rw [ho'] at this; exact (Option.some.inj this).symm
        rw [HTX.out] at c0
        clear hb4 hd3 hbw3 ho ho' HER hd4
        have hj0 : (0 : Int) ≤ (j : Int) := by omega
        have hj1 : (j : Int) < (m : Int) - 1 := by omega
        generalize b.tx = bt at *
        go_wp2
        go_quiet (fail)
        go_wp2
        go_ret
        exact ⟨rfl, below_drewN hbw4 _⟩
      · have CS := hide (swap_ok A7 m c7 l j w2 hd2 hok hj a b ha hb htx hodd)
        clear ha hb hodd htx hok
        go_wp2_with fail
        refine (unhide CS).mono ?_
        rintro e w3 ⟨v3, rfl, ho3, hb3⟩
        obtain ⟨A3, c3, rfl⟩ := own_slice ho3
        have hbw3 := hbw2.trans (hb3.mono hbw2.size)
        have ER := error_any 0 7 w3 ((unhide HE).below hbw3 hz0)
        rw [decide_eq_false (by decide), errV_zero] at ER
        have HER := hide ER
        clear ER hb3 CS ho3
        go_wp2_with fail
        refine (unhide HER).mono ?_
        rintro e w4 ⟨rfl, hb4⟩
        have hbw4 := hbw3.trans (hb4.mono hbw3.size)
        go_wp2
        go_quiet (fail)
        go_wp2
        go_ret
        exact ⟨rfl, below_drewN hbw4 _⟩

theorem bytes_ops : Tryd.prog.bytesOf 24 = 24 := by kernel_rfl

/-! ### The row. -/
set_option maxRecDepth 100000 in
theorem lifted (os : Os) (started : os.Started) (H : Type) (enc : TypeId × Value → H) :
    ReturnsInHanded {} Tryd.checked os 6 .any (fun w args => (Rows.oddsReadersSpec.pre enc Tryd.prog Tryd.f6 [] false w args ∧ laidMetH Tryd.prog dLaid w) ∧ sizedMet enc Tryd.prog Tryd.f6 (OpenSpec.ofChange Rows.oddsReadersSpec) false w args) (Rows.oddsReadersSpec.post enc Tryd.prog Tryd.f6 false true false false) := by
  refine returnsInHanded_of_change_and (C := Tryd.checked) (X := fun w _ => laidMetH Tryd.prog dLaid w) (fun _ _ _ hh h => h.of_heap hh) dOwn started (by kernel_rfl) Tryd.func6
    (ChangeSpec.witness_at (enc := enc) (C := Tryd.checked) (os := os) (X := fun w _ => laidMetH Tryd.prog dLaid w) false (laidWorld os) #[.slice none 0 0, .int .i64 0] 8 rfl (by kernel_rfl) (by kernel_rfl) (by kernel_rfl) (by kernel_rfl) (by kernel_rfl) (laidWorld_met os _)) ?_
  intro W base args ds gs before hval0 hW hcnd hsz0 hL _
  have hval : ∀ (j : Nat) t v, Tryd.f6.params[j]? = some t → args[j]? = some v → Value.okWide Tryd.prog W .any base t v := hval0
  have hW' := hW
  obtain ⟨p, q, hA0, hV, rfl, hfz, hnd⟩ := hW
  have hA : DataW.TrodAll enc Tryd.prog W 0 (fun _ => true) true Tryd.f6.params.toList args.toList ds p := hA0
  have hsz : (DataW.weightsEach Tryd.prog (Tryd.f6.params.toList ++ Rows.oddsReadersSpec.plain.varTypes Tryd.prog) (ds ++ gs)).all (· ≤ reachBytes) = true := hsz0
  rw [Tryd.params6] at hA hval hsz
  obtain ⟨v0, vs0, d0, ds0, p0, q0, hargs, rfl, rfl, h0, r0⟩ := trodAll_cons hA
  obtain ⟨v1, vs1, d1, ds1, p1, q1, rfl, rfl, rfl, h1, r1⟩ := trodAll_cons r0
  obtain ⟨rfl, rfl, rfl⟩ := trodAll_nil r1
  obtain rfl : args = #[v0, v1] := by cases args; simp_all
  obtain ⟨rfl, rfl⟩ := trodVars_none hV
  simp only [List.append_nil] at hW'
  have hk0 := h0
  have hlt0 : ∀ x ∈ p0, x.block < W.heap.size := fun x hx => hW'.lt x (by simp [hx])
  obtain ⟨A0, n0, c0, l0, rfl, rd0, bd0⟩ := open_ops Tryd.underlying22 Tryd.underlying24 Tryd.underlying3 rfl rfl rfl (by kernel_rfl) (by kernel_rfl) (hval 0 22 v0 rfl rfl) h0 (fun e s he => by have := sized_slice hsz (j := 0) (t := 22) (e := 24) rfl (congrArg some he) Tryd.underlying22; rwa [bytes_ops] at this)
  obtain ⟨a1, rfl, rfl, rfl, w1⟩ := open_int Tryd.underlying3 (hval 1 3 v1 rfl rfl) h1
  clear hA0 hval0
  refine (walk A0 n0 c0 l0 a1 W (et_of_laid hL) rd0 bd0).mono fun e W' ⟨he, hg⟩ => ?_
  subst he
  exact ⟨_, rfl, post_slices (pa := _) (pv := []) hW' hg (by simp) (fun _ _ _ => (trodAll_cons_mk (shut_bool Tryd.underlying4 _) trodAll_mk0)) (trodAll_cons_mk (Below.trod laidOut (by kernel_rfl) (of_decide_eq_true (by kernel_rfl)) hk0 hg hlt0) (trodAll_cons_mk (shut_int Tryd.underlying3 w1) trodAll_mk0)) rfl⟩

theorem over : Rows.OddsReadersSaid :=
  OpenClaim.holds_of_wide 6 Tryd.f6 rfl rfl rfl rfl rfl rfl rfl ⟨rfl, rfl, rfl, rfl, rfl⟩ rfl rfl rfl rfl rfl (by kernel_rfl) Tryd.func6 (by kernel_rfl)
    (of_decide_eq_true (by kernel_rfl)) (by unfold Func.isWrapper; first | (rw [if_pos (by decide +kernel)]; kernel_rfl) | (rw [if_neg (by decide +kernel)]; exact ⟨rfl, rfl⟩))
    (fun os started H enc _ => lifted os started H enc)

/-- The statement: the tied card. -/
theorem proved : Rows.OddsReadersCardSaid :=
  Claim7.holds_tied_plain_at .later [] [.handle] true _ true
    over (fun _ h => by cases h) (by kernel_rfl) (fun _ h => by cases h) oddsReaders_row_tie rfl ⟨rfl, rfl⟩ (by kernel_rfl) rfl
    (fun f fn hf hfn => by
      obtain rfl : f = 6 := Option.some.inj ((show Tryd.prog.funcNamed "locklane/lanelaw4.OddsReaders" = some 6 by kernel_rfl).symm.trans hf) |>.symm
      obtain rfl : fn = Tryd.f6 := (Option.some.inj (Tryd.func6.symm.trans hfn)).symm
      exact ⟨by kernel_rfl, fun j t ht => by
        rw [Tryd.params6] at ht
        have hm : t ∈ [22, 3] := by have := Array.mem_of_getElem? ht; simpa using this
        have hall : ([22, 3].all fun u => !Tryd.prog.wantsStandIn u) = true := by kernel_rfl
        exact (show Tryd.prog.wantsStandIn t = false by simpa using List.all_eq_true.1 hall t hm)⟩)
    (by kernel_rfl)
#print axioms proved
end Go.Proofs.YtoboecppilmnnaaDoor.oddsReaders

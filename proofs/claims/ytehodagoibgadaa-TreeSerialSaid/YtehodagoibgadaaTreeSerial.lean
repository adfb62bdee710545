
/-
  PROVED: lanelaw3.TreeSerial returns true, for every tree and every list of grips: of grips that are legal on a tree the deals have an order, though they let go early. No condition beyond the form's own reach.
-/
import Derived.Test.YtehodagoibgadaaTreeE
import Derived.Test.YtehodagoibgadaaN2
import Derived.Test.YtehodagoibgadaaOpenG

namespace Go.Proofs.Ytehodagoibgadaa.treeSerial
open Go.ChangeShapes Go.WideShapes Go.ChangeAt Go.RowKit Go.Proofs.Ytehodagoibgadaa

def oneG3 : List GOp := [⟨1, 1, true⟩, ⟨1, 1, false⟩, ⟨2, 1, true⟩]
theorem fact : (legalF [0] oneG3).2 = 0 ∧ edgesG oneG3 = [(1, 2)] := by decide +kernel
theorem order_zero {up : List Int} {l : List GOp} (h : (legalF up l).2 = 0) : orderE (edgesG l) = 0 ∧ (orderL (edgesG l)).length ≤ 6 ∧ (∀ e ∈ edgesG l, e.1 ≠ e.2) ∧ (edgesG l).length ≤ 36 := by
  obtain ⟨⟨o, h1, h2⟩, h3, h4, h5⟩ := tree_order h
  refine ⟨?_, ?_, h4, (edgesG_ok h5).2⟩
  · unfold orderE
    rw [if_neg (fun e => e h3), h1]
  · unfold orderL
    rw [if_neg (fun e => e h3), h1]; exact h2

set_option maxRecDepth 100000 in
set_option maxHeartbeats 4000000 in
theorem walk (Au : Option Addr) (nu cu : Nat) (up : List Int) (Al : Option Addr) (nl cl : Nat) (l : List GOp) (w : World) (hu : Rd w w.heap.size 1 Au nu (cellsI up)) (_hn : nu * 8 ≤ 140737488351232) (hcap : nu ≤ cu) (hr : Rd w w.heap.size 3 Al nl (cellsG l)) (hnl : nl * 24 ≤ 140737488351232) (hcl : nl ≤ cl) :
    Calls Try.prog 3 #[.slice Au nu cu, .slice Al nl cl] w fun e w' => e = .returned (.bool true) ∧ Below w.heap.size w w' := by
  have hml : nl ≤ 1000000000000000 := by omega
  have HU := hide (fun w1 (hb : Below w.heap.size w w1) => (hu.below hb).more hb.size)
  have HR := hide (fun w1 (hb : Below w.heap.size w w1) => (hr.below hb).more hb.size)
  have HF := Lib.hid fact
  clear hu hr hnl
  go_enter Try.func3, Try.ntmps3
  go_wp2_with fail
  have hr0 := rd_new w 25 (size := 3) (n := 3) [.int .i64 1, .int .i64 1, .bool true, .int .i64 1, .int .i64 1, .bool false, .int .i64 2, .int .i64 1, .bool true] rfl
  have hb0 : Below w.heap.size w (w.alloc (.cells #[.int .i64 1, .int .i64 1, .bool true, .int .i64 1, .int .i64 1, .bool false, .int .i64 2, .int .i64 1, .bool true] 25)) := (Below.refl _ _).alloc (Nat.le_refl _) _
  generalize hw1 : w.alloc (.cells #[.int .i64 1, .int .i64 1, .bool true, .int .i64 1, .int .i64 1, .bool false, .int .i64 2, .int .i64 1, .bool true] 25) = w1 at *
  have hz1 : w1.heap.size = w.heap.size + 1 := by rw [← hw1]; simp
  have hr1 := rd_new' w1 3 (size := 1) (n := 1) (g := w.heap.size + 1) [.int .i64 0] hz1.symm rfl
  have hb1 : Below w.heap.size w (w1.alloc (.cells #[.int .i64 0] 3)) := hb0.alloc (by omega) _
  refine Calls.mono (tedges_any (some ⟨w.heap.size + 1, 0, none⟩) 1 1 [0] (some ⟨w.heap.size, 0, none⟩) 3 3 oneG3 _ (hr1.more (by simp)) (by omega) ((hr0.alloc (by omega) _).more (by simp; omega)) (by omega) (by omega) HF.out.1) ?_
  rintro e w2 ⟨A2, m2, c2, rfl, h2, _, hb2⟩
  have hbw2 := hb1.trans (hb2.mono hb1.size)
  rw [HF.out.2] at h2
  obtain rfl : m2 = 1 := by have := h2.dlen; simpa using this.symm
  obtain ⟨b2, off2, ⟨x, y⟩, he2, hbb2, hx2, d0, d1⟩ := h2.pr (k := 0) (by omega)
  cases he2
  obtain ⟨rfl, rfl⟩ : x = 1 ∧ y = 2 := by simpa using hx2.symm
  simp only [Nat.zero_mul, Nat.add_zero] at d0 d1
  clear hr0 hr1 hb0 hb1 hb2 hx2 h2 HF hw1
  by_cases hok : (legalF up l).2 = 0
  · obtain ⟨f1, f2, f3, f4⟩ := order_zero hok
    have CE := hide (tedges_any Au nu cu up Al nl cl l w2 (unhide HU _ hbw2) hcap (unhide HR _ hbw2) hcl hml hok)
    have HFF := Lib.hid (And.intro f1 (And.intro f2 (And.intro f3 f4)))
    clear hok f1 f2 f3 f4
    go_wp2_with fail
    refine (unhide CE).mono ?_
    rintro e w3 ⟨A3, m3, c3, rfl, h3, hm3, hb3⟩
    have hbw3 := hbw2.trans (hb3.mono hbw2.size)
    have CO := hide (gorder_any A3 m3 c3 (edgesG l) w3 h3 (by omega))
    rw [HFF.out.1, show errV 0 = .nilIface from rfl] at CO
    have H3 := hide h3
    clear h3 hb3 CE d0 d1
    go_wp2_with fail
    refine (unhide CO).mono ?_
    rintro e w4 ⟨v4, k4, rfl, ho4, hb4⟩
    obtain ⟨A4, c4, rfl⟩ := own_slice ho4
    have hk4 : k4 ≤ 6 := by rw [← own_ilen ho4]; exact HFF.out.2.1
    have hbw4 := hbw3.trans (hb4.mono hbw3.size)
    have H4 := hide (fun N => (((unhide H3).below hb4).more hb4.size : Rd (w4.drewN N) w4.heap.size 2 A3 m3 (dcells (edgesG l))))
    clear CO ho4 hb4
    go_wp2
    go_loopw [12] (fun s12 wr => ∃ k N : Nat, k ≤ m3 ∧ s12 = .int .i64 k ∧ wr = w4.drewN N) (fun s12 _ => m3 - (intOf s12).toNat)
    case atStart => exact ⟨0, 0, Nat.zero_le _, rfl, rfl⟩
    case round =>
      obtain ⟨k, N, hk, rfl, rfl⟩ := hrel
      by_cases hlt : k < m3
      · obtain ⟨b5, off5, ⟨x, y⟩, he5, hb5, hx5, d0, d1⟩ := (unhide H4 N).pr (k := k) hlt
        cases he5
        have hne : x ≠ y := HFF.out.2.2.1 _ (List.mem_of_getElem? hx5)
        have tn : (x == y) = false := by simp [hne]
        have j0 : (0 : Int) ≤ (k : Int) := by omega
        have j1 : (k : Int) < (m3 : Int) := by omega
        clear hx5 hne
        go_wp2
        go_quiet (fail)
        go_wp2
        go_roundw
        case rel => exact ⟨k + 1, _, by omega, by go_num, rfl⟩
        case measure => simp [intOf]; omega
      · have t6 : decide ((k4 : Int) ≤ 6) = true := decide_eq_true (by omega)
        go_wp2
        go_ret
        exact ⟨rfl, below_drewN hbw4 _⟩
  · have CE := hide (tedges_no Au nu cu up Al nl cl l w2 (unhide HU _ hbw2) hcap (unhide HR _ hbw2) hml hok)
    have HO := Lib.hid hok
    rw [ne_errV hok] at CE
    generalize (legalF up l).2 = ev at *
    clear hok
    go_wp2_with fail
    refine (unhide CE).mono ?_
    rintro e w3 ⟨rfl, hb3⟩
    have hbw3 := hbw2.trans (hb3.mono hbw2.size)
    go_wp2
    go_ret
    exact ⟨rfl, hbw3⟩

theorem own : ownKnob Try.prog.godebug = none := by kernel_rfl
theorem bytes_gripsc : Try.prog.bytesOf 25 = 24 := by kernel_rfl
theorem bytes_intsc : Try.prog.bytesOf 3 = 8 := by kernel_rfl

/-! ### The row. -/
set_option maxRecDepth 100000 in
theorem lifted (os : Os) (started : os.Started) (H : Type) (enc : TypeId × Value → H) :
    ReturnsInHanded {} Try.checked os 3 .any (Rows.treeSerialSpec.pre6 enc Try.prog Try.f3 Rows.treeSerialRow.domain false) (Rows.treeSerialSpec.post enc Try.prog Try.f3 false true false false) := by
  refine returnsInHanded_of_change_sized (C := Try.checked) own started (by kernel_rfl) Try.func3
    (ChangeSpec.witness6 (enc := enc) (C := Try.checked) false ⟨#[], #[.slice none 0 0, .slice none 0 0], []⟩ 8 (by kernel_rfl) (by kernel_rfl) (by kernel_rfl) (by kernel_rfl)) ?_
  intro W base args ds gs before hval0 hW hcnd hsz0 _
  have hval : ∀ (j : Nat) t v, Try.f3.params[j]? = some t → args[j]? = some v → Value.okWide Try.prog W .any base t v := hval0
  have hW' := hW
  obtain ⟨p, q, hA0, hV, rfl, hfz, hnd⟩ := hW
  have hA : DataW.TrodAll enc Try.prog W 0 (fun _ => true) true Try.f3.params.toList args.toList ds p := hA0
  have hsz : (DataW.weightsEach Try.prog (Try.f3.params.toList ++ Rows.treeSerialSpec.plain.varTypes Try.prog) (ds ++ gs)).all (· ≤ reachBytes) = true := hsz0
  rw [Try.params3] at hA hval hsz
  obtain ⟨v0, vs0, d0, ds0, p0, q0, hargs, rfl, rfl, h0, r0⟩ := trodAll_cons hA
  obtain ⟨v1, vs1, d1, ds1, p1, q1, rfl, rfl, rfl, h1, r1⟩ := trodAll_cons r0
  obtain ⟨rfl, rfl, rfl⟩ := trodAll_nil r1
  obtain rfl : args = #[v0, v1] := by cases args; simp_all
  obtain ⟨rfl, rfl⟩ := trodVars_none hV
  simp only [List.append_nil] at hW'
  have hk0 := h0
  have hlt0 : ∀ x ∈ p0, x.block < W.heap.size := fun x hx => hW'.lt x (by simp [hx])
  obtain ⟨A0, n0, c0, l0, rfl, rd0, bd0, cp0⟩ := open_isc Try.underlying22 Try.underlying3 (by kernel_rfl) (hval 0 22 v0 rfl rfl) h0 (fun e s he => by have := sized_slice hsz (j := 0) (t := 22) (e := 3) rfl (congrArg some he) Try.underlying22; rwa [bytes_intsc] at this)
  have hk1 := h1
  have hlt1 : ∀ x ∈ p1, x.block < W.heap.size := fun x hx => hW'.lt x (by simp [hx])
  obtain ⟨A1, n1, c1, l1, rfl, rd1, bd1, cp1⟩ := open_gripsc Try.underlying23 Try.underlying25 Try.underlying3 Try.underlying4 rfl rfl rfl (by kernel_rfl) (by kernel_rfl) (hval 1 23 v1 rfl rfl) h1 (fun e s he => by have := sized_slice hsz (j := 1) (t := 23) (e := 25) rfl (congrArg some he) Try.underlying23; rwa [bytes_gripsc] at this)
  clear hA0 hval0
  refine (walk A0 n0 c0 l0 A1 n1 c1 l1 W rd0 bd0 cp0 rd1 bd1 cp1).mono fun e W' ⟨he, hg⟩ => ?_
  subst he
  exact ⟨_, rfl, post_slices (pa := _) (pv := []) hW' hg (by simp) (fun _ _ _ => (trodAll_cons_mk (shut_bool Try.underlying4 _) trodAll_mk0)) (trodAll_cons_mk (Below.trod laidOut (by kernel_rfl) (of_decide_eq_true (by kernel_rfl)) hk0 hg hlt0) (trodAll_cons_mk (Below.trod laidOut (by kernel_rfl) (of_decide_eq_true (by kernel_rfl)) hk1 hg hlt1) trodAll_mk0)) rfl⟩

theorem over : Rows.treeSerialRow.holds Try.pinned (OpenSpec.ofChange Rows.treeSerialSpec) :=
  OpenClaim.holds_of_wide 3 Try.f3 rfl rfl rfl rfl rfl rfl rfl ⟨rfl, rfl, rfl, rfl, rfl⟩ rfl rfl rfl rfl rfl (by kernel_rfl) Try.func3 (by kernel_rfl)
    (of_decide_eq_true (by kernel_rfl)) (by unfold Func.isWrapper; first | (rw [if_pos (by decide +kernel)]; kernel_rfl) | (rw [if_neg (by decide +kernel)]; exact ⟨rfl, rfl⟩))
    (fun os started H enc _ => lifted os started H enc)

/-- The statement. -/
theorem proved : Rows.TreeSerialSaid :=
  over
#print axioms proved
end Go.Proofs.Ytehodagoibgadaa.treeSerial

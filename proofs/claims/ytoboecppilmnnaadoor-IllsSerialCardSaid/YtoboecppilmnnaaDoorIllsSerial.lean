
/-
  PROVED: lanelaw4.IllsSerial returns true, for all its arguments: deals one behind the other, of which each reads one item, writes one and commits, have no ills, and are rigorous. The variable errors.errorType starts as the program's text lays it (the card's tie); no condition beyond the form's own reach.
-/
import Derived.Test.YtoboecppilmnnaaDoorIllsOf
import Derived.Test.YtoboecppilmnnaaDoorFacesAll
import Derived.Test.YtoboecppilmnnaaDoorPiecesP
import Derived.Test.YtoboecppilmnnaaDoorDoor
namespace Go.Proofs.YtoboecppilmnnaaDoor.illsSerial
open Go.ChangeShapes Go.WideShapes Go.ChangeAt Go.RowKit Go.Proofs.YtoboecppilmnnaaDoor

/-! ### The plain law. -/
theorem own_cap {w : World} {base : Nat} {e : TypeId} {size : Nat} {A : Option Addr} {n c : Nat} {xs : List Value} (h : w.ownsRow base e size (.slice A n c) n xs) : n ≤ c := by
  obtain ⟨_, ⟨he, h0⟩ | ⟨g, cap, cur, he, _, _, h1, _⟩⟩ := h
  · omega
  · injection he with e1 e2 e3; omega
theorem anyL_no {p : List HOp → HOp → Bool} {h : List HOp} (hp : ∀ i o, h[i]? = some o → p (h.take i) o = false) (k : Nat) : anyL p h k = false := by
  cases ha : anyL p h k with
  | false => rfl
  | true =>
    obtain ⟨i, o, _, h1, h2⟩ := anyL_iff.1 ha
    rw [hp i o h1] at h2; cases h2
theorem pieces_noill {a b : Int} (ha : 1 ≤ a ∧ a ≤ 6) (hb : 1 ≤ b ∧ b ≤ 6) {q : List Int} (hq : OrdOk q) :
    illsF (piecesH a b q) = ⟨false, false, false, false⟩ ∧ firstF (piecesH a b q) = none ∧ (facesF (piecesH a b q)).rig = true := by
  have hk := pieces_ok ha hb hq
  have key : ∀ i o, (piecesH a b q)[i]? = some o → ∀ what, openB ((piecesH a b q).take i) o what = false := by
    intro i o ho what
    rw [← ropen_eq hk i o what, List.any_eq_false]
    intro x hx
    unfold ropenT
    simp only [decide_eq_true_eq]
    rintro ⟨_, _, hne, h0⟩
    exact endGo_in.2 (pieces_ended ho x hx hne) h0
  have n1 : ∀ i o, (piecesH a b q)[i]? = some o → dwT ((piecesH a b q).take i) o = false := fun i o ho => by unfold dwT; rw [key i o ho, Bool.and_false]
  have n2 : ∀ i o, (piecesH a b q)[i]? = some o → drT ((piecesH a b q).take i) o = false := fun i o ho => by unfold drT; rw [key i o ho, Bool.and_false]
  have n3 : ∀ i o, (piecesH a b q)[i]? = some o → unT ((piecesH a b q).take i) o = false := fun i o ho => by unfold unT; rw [key i o ho, Bool.and_false]
  have n4 : ∀ i o, (piecesH a b q)[i]? = some o → illT ((piecesH a b q).take i) o = false := fun i o ho => by unfold illT; rw [n1 i o ho, n2 i o ho, n3 i o ho]; rfl
  refine ⟨?_, ?_, ?_⟩
  · unfold illsF
    rw [anyL_no n1, anyL_no n2, anyL_no n3]
    cases hl : lostF (piecesH a b q) with
    | false => rfl
    | true => have := lost_un hk hl; rw [anyL_no n3] at this; cases this
  · cases hf : firstF (piecesH a b q) with
    | none => rfl
    | some k =>
      obtain ⟨j, o, _, h1, h2, _⟩ := firstGo_some hf
      rw [List.nil_append, n4 j o h1] at h2; cases h2
  · have := facesF_rig hk (piecesH a b q).length
    rw [List.take_length, anyL_no n4] at this
    exact this
def twoH : List HOp := [⟨1, 2, 1⟩, ⟨2, 2, 1⟩]
theorem fact : okH twoH ∧ firstI twoH = 1 ∧ firstE twoH = 0 := ⟨by show (checkF _).2 = 0; decide, by decide, by decide⟩

/-! ### The walk. -/
set_option maxRecDepth 100000 in
set_option maxHeartbeats 8000000 in
theorem walk (A : Option Addr) (n c : Nat) (l : List Int) (a b : Int) (w : World) (hE : Et w) (hr : Rd w w.heap.size 1 A n (cellsI l)) (hn : n * 8 ≤ 140737488351232) :
    Calls Tryd.prog 10 #[.slice A n c, .int .i64 a, .int .i64 b] w fun e w' => e = .returned (.bool true) ∧ Below w.heap.size w w' := by
  have hz0 := hE.pos
  have HE := hide hE
  have hm : n ≤ 100000000000000 := by omega
  have CT := hide (fun W hR => illsFirst_ok (some ⟨w.heap.size, 0, none⟩) 2 2 twoH W hR (Nat.le_refl _) fact.1)
  rw [fact.2.1, fact.2.2, errV_zero] at CT
  have hr0 := rd_new w 24 (size := 3) (n := 2) (cellsH twoH) rfl
  have hb0 : Below w.heap.size w (w.alloc (.cells (cellsH twoH).toArray 24)) := (Below.refl _ _).alloc (Nat.le_refl _) _
  have CT0 := hide (unhide CT _ (hr0.more (by simp)))
  clear hE CT hr0 hn
  have HM := Lib.hid hm
  clear hm
  by_cases hab : a < 1 ∨ 6 < a ∨ b < 1 ∨ 6 < b
  · have hcs : a < 1 ∨ (¬ a < 1 ∧ 6 < a) ∨ (¬ a < 1 ∧ ¬ 6 < a ∧ b < 1) ∨ (¬ a < 1 ∧ ¬ 6 < a ∧ ¬ b < 1 ∧ 6 < b) := by omega
    clear hab
    rcases hcs with g1 | ⟨g1, g2⟩ | ⟨g1, g2, g3⟩ | ⟨g1, g2, g3, g4⟩
    all_goals
      go_enter Tryd.func10, Tryd.ntmps10
      go_wp2_with fail
      refine (unhide CT0).mono ?_
      rintro e w1 ⟨rfl, hb1⟩
      have hbw1 := hb0.trans (hb1.mono hb0.size)
      go_wp2
      go_ret
      exact ⟨rfl, hbw1⟩
  have g1 : ¬ a < 1 := by omega
  have g2 : ¬ 6 < a := by omega
  have g3 : ¬ b < 1 := by omega
  have g4 : ¬ 6 < b := by omega
  have HP := Lib.hid (pieces_noill (a := a) (b := b) (by omega) (by omega) (order_ok l))
  have HK := Lib.hid (pieces_ok (a := a) (b := b) (by omega) (by omega) (order_ok l))
  have CP := hide (fun W (hb : Below w.heap.size w W) => pieces_any A n c l a b W ((hr.below hb).more hb.size) (by have := HM.out; omega))
  clear hab
  generalize hHH : piecesH a b (orderF l) = h at *
  clear hHH
  go_enter Tryd.func10, Tryd.ntmps10
  go_wp2_with fail
  refine (unhide CT0).mono ?_
  rintro e w1 ⟨rfl, hb1⟩
  have hbw1 := hb0.trans (hb1.mono hb0.size)
  have CP1 := hide (unhide CP _ hbw1)
  clear hb0 hb1 CT0 CP
  go_wp2_with fail
  refine (unhide CP1).mono ?_
  rintro e w2 ⟨v1, v2, rfl, ho1, ho2, hb2⟩
  obtain ⟨A1, c1, rfl⟩ := own_slice ho1
  obtain ⟨A2, c2, rfl⟩ := own_slice ho2
  have hcap := own_cap ho1
  have hd2 := rd_own ho1
  have hbw2 := hbw1.trans (hb2.mono hbw1.size)
  generalize (orderF l).length * 3 = N at *
  generalize (orderF l).length = M at *
  clear ho1 ho2 hbw1 hb2 CP1
  have CO := hide (fun W hR => illsOf_ok A1 N c1 h W hR hcap HK.out)
  have CF := hide (fun W hR => illsFirst_ok A1 N c1 h W hR hcap HK.out)
  have CC := hide (fun W hR => facesOf_ok A1 N c1 h W hR hcap HK.out)
  have e5 : firstI h = 0 ∧ errV (firstE h) = .iface 86 (.int .i64 5) := by unfold firstI firstE; rw [HP.out.2.1]; exact ⟨rfl, rfl⟩
  obtain ⟨⟨R1, c1', s1, r1⟩, hf1⟩ : ∃ f, facesF h = f := ⟨_, rfl⟩
  have hrig := HP.out.2.2
  rw [hf1] at hrig CC
  simp only at hrig
  subst hrig
  have hvv : (⟨R1, c1', s1, true⟩ : FacesV).val = .agg #[.bool R1, .bool c1', .bool s1, .bool true] := rfl
  have hvi : (⟨false, false, false, false⟩ : FacesV).val = .agg #[.bool false, .bool false, .bool false, .bool false] := rfl
  rw [HP.out.1, hvi] at CO
  rw [e5.1, e5.2] at CF
  rw [hvv] at CC
  have CO2 := hide (unhide CO _ hd2)
  clear hvv hvi e5 hf1 CO HP
  go_wp2_with fail
  refine (unhide CO2).mono ?_
  rintro e w3 ⟨rfl, hb3⟩
  have hd3 := (hd2.below hb3).more hb3.size
  have hbw3 := hbw2.trans (hb3.mono hbw2.size)
  have hI4 := Blk.new w3 67 [.bool false, .bool false, .bool false, .bool false]
  have hd4 := (hd3.alloc (Nat.le_refl _) (.cells #[.bool false, .bool false, .bool false, .bool false] 67)).more (Nat.le_succ _)
  have hbw4 := hbw3.alloc hbw3.size (.cells #[.bool false, .bool false, .bool false, .bool false] 67)
  have hsz4 : (w3.alloc (.cells #[.bool false, .bool false, .bool false, .bool false] 67)).heap.size = w3.heap.size + 1 := by simp
  have CF4 := hide (unhide CF _ (by rw [hsz4]; exact hd4))
  have HS4 := Lib.hid hsz4
  clear hb3 hd2 hd3 hbw2 hbw3 CO2 CF hsz4
  go_wp2_with fail
  refine (unhide CF4).mono ?_
  rintro e w5 ⟨rfl, hb5⟩
  have hI5 := hI4.below hb5 hI4.lt
  have hd5 := ((hd4.more (by rw [HS4.out]; exact Nat.le_refl _)).below hb5).more hb5.size
  have hbw5 := hbw4.trans (hb5.mono hbw4.size)
  have CC5 := hide (unhide CC _ hd5)
  clear hb5 hI4 hd4 hbw4 CF4 CC HS4
  go_wp2_with fail
  refine (unhide CC5).mono ?_
  rintro e w6 ⟨rfl, hb6⟩
  have hI6 := hI5.below hb6 hI5.lt
  have hbw6 := hbw5.trans (hb6.mono hbw5.size)
  have hF7 := Blk.new w6 73 [.bool R1, .bool c1', .bool s1, .bool true]
  have hI7 := hI6.alloc (.cells #[.bool R1, .bool c1', .bool s1, .bool true] 73)
  have hbw7 := hbw6.alloc hbw6.size (.cells #[.bool R1, .bool c1', .bool s1, .bool true] 73)
  clear hb6 hI5 hI6 hbw5 hbw6 CC5
  have ER := error_any 5 5 _ ((unhide HE).below hbw7 hz0)
  rw [decide_eq_true rfl, show errV 5 = .iface 86 (.int .i64 5) from rfl] at ER
  have HER := hide ER
  clear ER
  go_wp2_with fail
  refine (unhide HER).mono ?_
  rintro e w8 ⟨rfl, hb8⟩
  have hF8 := hF7.below hb8 hF7.lt
  have hI8 := hI7.below hb8 hI7.lt
  have hbw8 := hbw7.trans (hb8.mono hbw7.size)
  obtain ⟨x0, x1, x2, x3, _⟩ := fcells hI8
  obtain ⟨y0, y1, y2, y3, _⟩ := fcells hF8
  clear hF7 hI7 hb8 hbw7 HER
  go_wp2
  go_ret
  exact ⟨rfl, hbw8⟩

theorem bytes_ints : Tryd.prog.bytesOf 3 = 8 := by kernel_rfl

/-! ### The row. -/
set_option maxRecDepth 100000 in
theorem lifted (os : Os) (started : os.Started) (H : Type) (enc : TypeId × Value → H) :
    ReturnsInHanded {} Tryd.checked os 10 .any (fun w args => (Rows.illsSerialSpec.pre enc Tryd.prog Tryd.f10 [] false w args ∧ laidMetH Tryd.prog dLaid w) ∧ sizedMet enc Tryd.prog Tryd.f10 (OpenSpec.ofChange Rows.illsSerialSpec) false w args) (Rows.illsSerialSpec.post enc Tryd.prog Tryd.f10 false true false false) := by
  refine returnsInHanded_of_change_and (C := Tryd.checked) (X := fun w _ => laidMetH Tryd.prog dLaid w) (fun _ _ _ hh h => h.of_heap hh) dOwn started (by kernel_rfl) Tryd.func10
    (ChangeSpec.witness_at (enc := enc) (C := Tryd.checked) (os := os) (X := fun w _ => laidMetH Tryd.prog dLaid w) false (laidWorld os) #[.slice none 0 0, .int .i64 0, .int .i64 0] 8 rfl (by kernel_rfl) (by kernel_rfl) (by kernel_rfl) (by kernel_rfl) (by kernel_rfl) (laidWorld_met os _)) ?_
  intro W base args ds gs before hval0 hW hcnd hsz0 hL _
  have hval : ∀ (j : Nat) t v, Tryd.f10.params[j]? = some t → args[j]? = some v → Value.okWide Tryd.prog W .any base t v := hval0
  have hW' := hW
  obtain ⟨p, q, hA0, hV, rfl, hfz, hnd⟩ := hW
  have hA : DataW.TrodAll enc Tryd.prog W 0 (fun _ => true) true Tryd.f10.params.toList args.toList ds p := hA0
  have hsz : (DataW.weightsEach Tryd.prog (Tryd.f10.params.toList ++ Rows.illsSerialSpec.plain.varTypes Tryd.prog) (ds ++ gs)).all (· ≤ reachBytes) = true := hsz0
  rw [Tryd.params10] at hA hval hsz
  obtain ⟨v0, vs0, d0, ds0, p0, q0, hargs, rfl, rfl, h0, r0⟩ := trodAll_cons hA
  obtain ⟨v1, vs1, d1, ds1, p1, q1, rfl, rfl, rfl, h1, r1⟩ := trodAll_cons r0
  obtain ⟨v2, vs2, d2, ds2, p2, q2, rfl, rfl, rfl, h2, r2⟩ := trodAll_cons r1
  obtain ⟨rfl, rfl, rfl⟩ := trodAll_nil r2
  obtain rfl : args = #[v0, v1, v2] := by cases args; simp_all
  obtain ⟨rfl, rfl⟩ := trodVars_none hV
  simp only [List.append_nil] at hW'
  have hk0 := h0
  have hlt0 : ∀ x ∈ p0, x.block < W.heap.size := fun x hx => hW'.lt x (by simp [hx])
  obtain ⟨A0, n0, c0, l0, rfl, rd0, bd0⟩ := open_is Tryd.underlying38 Tryd.underlying3 (by kernel_rfl) (hval 0 38 v0 rfl rfl) h0 (fun e s he => by have := sized_slice hsz (j := 0) (t := 38) (e := 3) rfl (congrArg some he) Tryd.underlying38; rwa [bytes_ints] at this)
  obtain ⟨a1, rfl, rfl, rfl, w1⟩ := open_int Tryd.underlying3 (hval 1 3 v1 rfl rfl) h1
  obtain ⟨a2, rfl, rfl, rfl, w2⟩ := open_int Tryd.underlying3 (hval 2 3 v2 rfl rfl) h2
  clear hA0 hval0
  refine (walk A0 n0 c0 l0 a1 a2 W (et_of_laid hL) rd0 bd0).mono fun e W' ⟨he, hg⟩ => ?_
  subst he
  exact ⟨_, rfl, post_slices (pa := _) (pv := []) hW' hg (by simp) (fun _ _ _ => (trodAll_cons_mk (shut_bool Tryd.underlying4 _) trodAll_mk0)) (trodAll_cons_mk (Below.trod laidOut (by kernel_rfl) (of_decide_eq_true (by kernel_rfl)) hk0 hg hlt0) (trodAll_cons_mk (shut_int Tryd.underlying3 w1) (trodAll_cons_mk (shut_int Tryd.underlying3 w2) trodAll_mk0))) rfl⟩

theorem over : Rows.IllsSerialSaid :=
  OpenClaim.holds_of_wide 10 Tryd.f10 rfl rfl rfl rfl rfl rfl rfl ⟨rfl, rfl, rfl, rfl, rfl⟩ rfl rfl rfl rfl rfl (by kernel_rfl) Tryd.func10 (by kernel_rfl)
    (of_decide_eq_true (by kernel_rfl)) (by unfold Func.isWrapper; first | (rw [if_pos (by decide +kernel)]; kernel_rfl) | (rw [if_neg (by decide +kernel)]; exact ⟨rfl, rfl⟩))
    (fun os started H enc _ => lifted os started H enc)

/-- The statement: the tied card. -/
theorem proved : Rows.IllsSerialCardSaid :=
  Claim7.holds_tied_plain_at .later [] [.handle] true _ true
    over (fun _ h => by cases h) (by kernel_rfl) (fun _ h => by cases h) illsSerial_row_tie rfl ⟨rfl, rfl⟩ (by kernel_rfl) rfl
    (fun f fn hf hfn => by
      obtain rfl : f = 10 := Option.some.inj ((show Tryd.prog.funcNamed "locklane/lanelaw4.IllsSerial" = some 10 by kernel_rfl).symm.trans hf) |>.symm
      obtain rfl : fn = Tryd.f10 := (Option.some.inj (Tryd.func10.symm.trans hfn)).symm
      exact ⟨by kernel_rfl, fun j t ht => by
        rw [Tryd.params10] at ht
        have hm : t ∈ [38, 3] := by have := Array.mem_of_getElem? ht; simpa using this
        have hall : ([38, 3].all fun u => !Tryd.prog.wantsStandIn u) = true := by kernel_rfl
        exact (show Tryd.prog.wantsStandIn t = false by simpa using List.all_eq_true.1 hall t hm)⟩)
    (by kernel_rfl)
#print axioms proved
end Go.Proofs.YtoboecppilmnnaaDoor.illsSerial

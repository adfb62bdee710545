
/-
  PROVED: lanelaw3.MixTells returns true, for every history and every number: in how many ways its ops can come, how many of these have an order, and any of them, as the reference says. The variable errors.errorType starts as the program's text lays it (the card's tie); no condition beyond the form's own reach.
-/
import Derived.Test.YtmamejkdheigjaaGreatDoorMX4
import Derived.Test.YtmamejkdheigjaaGreatDoorRS1
import Derived.Test.YtmamejkdheigjaaGreatDoorMX3
import Derived.Test.YtmamejkdheigjaaGreatDoorE1

namespace Go.Proofs.YtmamejkdheigjaaGreatDoor.mixTells
open Go.ChangeShapes Go.WideShapes Go.ChangeAt Go.RowKit Go.Proofs.YtmamejkdheigjaaGreatDoor

set_option maxRecDepth 100000 in
set_option maxHeartbeats 4000000 in
theorem walk_no (A : Option Addr) (n c : Nat) (h : List HOp) (k : Int) (w : World) (hE : Et w) (hr : Rd w w.heap.size 3 A n (cellsH h)) (hn : n * 24 ≤ 140737488351232) (he : mixE h ≠ 0) :
    Calls Tryz.prog 3 #[.slice A n c, .int .i64 k] w fun e w' => e = .returned (.bool true) ∧ Below w.heap.size w w' := by
  have hm : n ≤ 6000000000000 := by omega
  have hz0 := hE.pos
  have CR := hide (rright_any A n c h w hr hm)
  have CC := hide (fun w1 (hb : Below w.heap.size w w1) => count_no A n c h w1 ((hr.below hb).more hb.size) hm he)
  have CG := hide (fun w1 (hb : Below w.heap.size w w1) => good_no A n c h w1 ((hr.below hb).more hb.size) hm he)
  have CN := hide (fun w1 (hb : Below w.heap.size w w1) => nth_any A n c h k w1 ((hr.below hb).more hb.size) hm)
  unfold NthPost at CN
  have e1 : nthE h k = mixE h := by unfold nthE; rw [if_pos he]
  have e2 : nthL h k = [] := by unfold nthL; rw [if_neg (by rw [e1]; exact he)]
  rw [e1, e2] at CN
  have HEE := hide (fun w1 (hb : Below w.heap.size w w1) => error_any (mixE h) (mixE h) w1 (hE.below hb hz0))
  rw [decide_eq_true rfl] at HEE
  have hl := hr.hlen
  have hcase : ((checkF h).2 ≠ 0 ∧ mixE h = (checkF h).2) ∨ ((checkF h).2 = 0 ∧ 8 < n ∧ mixE h = 4) := by
    by_cases h0 : (checkF h).2 = 0
    · refine .inr ⟨h0, ?_⟩
      unfold mixE at he ⊢
      rw [if_neg (by omega)] at he ⊢
      by_cases h8 : 8 < h.length
      · exact ⟨by omega, if_pos h8⟩
      · rw [if_neg h8] at he; exact absurd rfl he
    · exact .inl ⟨h0, by unfold mixE; rw [if_pos h0]⟩
  clear hE hr hl e1 e2
  generalize (checkF h).2 = cv at *
  generalize mixE h = ev at *
  generalize errV ev = vE at *
  have hev : (ev == 0) = false := by simpa using he
  rcases hcase with ⟨h0, rfl⟩ | ⟨rfl, h8, rfl⟩
  all_goals
    clear he
    go_enter Tryz.func3, Tryz.ntmps3
    go_wp2_with fail
    refine (unhide CR).mono ?_
    rintro e w1 ⟨rfl, hb1⟩
    go_wp2
    go_loopw [7, 8] (fun s7 s8 wr => s7 = .int .i64 0 ∧ s8 = .int .i64 0 ∧ wr = w1) (fun _ _ _ => 0)
    case atStart => exact ⟨rfl, rfl, rfl⟩
    case round =>
      obtain ⟨rfl, rfl, rfl⟩ := hrel
      go_wp2_with fail
      refine (unhide CC _ hb1).mono ?_
      rintro e w2 ⟨rfl, hb2⟩
      have hbw2 := hb1.trans (hb2.mono hb1.size)
      go_wp2_with fail
      refine (unhide HEE _ hbw2).mono ?_
      rintro e w3 ⟨rfl, hb3⟩
      have hbw3 := hbw2.trans (hb3.mono hbw2.size)
      go_wp2_with fail
      refine (unhide CG _ hbw3).mono ?_
      rintro e w4 ⟨rfl, hb4⟩
      have hbw4 := hbw3.trans (hb4.mono hbw3.size)
      go_wp2_with fail
      refine (unhide HEE _ hbw4).mono ?_
      rintro e w5 ⟨rfl, hb5⟩
      have hbw5 := hbw4.trans (hb5.mono hbw4.size)
      go_wp2_with fail
      refine (unhide CN _ hbw5).mono ?_
      rintro e w6 ⟨A6, n6, c6, rfl, hnc6, hr6, hb6⟩
      have hbw6 := hbw5.trans (hb6.mono hbw5.size)
      have hl6 := hr6.hlen
      have HR6 := hide (fun w' (hb : Below w6.heap.size w6 w') => (hr6.below hb).more hb.size)
      clear hr6
      go_wp2_with fail
      refine (unhide HEE _ hbw6).mono ?_
      rintro e w7 ⟨rfl, hb7⟩
      have hbw7 := hbw6.trans (hb7.mono hbw6.size)
      have CO := hide (ops_any A6 none n6 0 c6 0 [] [] w7 (unhide HR6 _ hb7) (rd_nilM _ _) (by simp at hl6; omega))
      rw [decide_eq_true rfl] at CO
      clear hb1 hb2 hb3 hb4 hb5 hb6 hb7 hbw2 hbw3 hbw4 hbw5 hbw6 HR6
      go_wp2_with fail
      refine (unhide CO).mono ?_
      rintro e w8 ⟨rfl, hb8⟩
      have hbw8 := hbw7.trans (hb8.mono hbw7.size)
      go_wp2
      go_ret
      exact ⟨rfl, hbw8⟩

set_option maxRecDepth 100000 in
set_option maxHeartbeats 8000000 in
theorem walk_ok (A : Option Addr) (n c : Nat) (h : List HOp) (k : Int) (w : World) (hE : Et w) (hr : Rd w w.heap.size 3 A n (cellsH h)) (he : mixE h = 0) :
    Calls Tryz.prog 3 #[.slice A n c, .int .i64 k] w fun e w' => e = .returned (.bool true) ∧ Below w.heap.size w w' := by
  obtain ⟨hok, h8'⟩ := mixE_zero he
  have h8 : n ≤ 8 := by have := hr.hlen; omega
  have hm : n ≤ 6000000000000 := by omega
  have hz0 := hE.pos
  have CR := hide (rright_any A n c h w hr hm)
  rw [show (checkF h).2 = 0 from hok] at CR
  have CA := hide (fun w1 (hb : Below w.heap.size w w1) => rallmixes_any A n c h w1 ((hr.below hb).more hb.size) hok h8)
  have CC := hide (fun w1 (hb : Below w.heap.size w w1) => count_ok A n c h w1 ((hr.below hb).more hb.size) hok h8)
  have CG := hide (fun w1 (hb : Below w.heap.size w w1) => good_ok A n c h w1 ((hr.below hb).more hb.size) hok h8)
  have CN := hide (fun w1 (hb : Below w.heap.size w w1) => nth_any A n c h k w1 ((hr.below hb).more hb.size) hm)
  unfold NthPost at CN
  have HEE := hide (fun x w1 (hb : Below w.heap.size w w1) => error_any x x w1 (hE.below hb hz0))
  have HEF := hide (unhide HEE 0)
  rw [decide_eq_true rfl, errV_zero] at HEF
  have HEN := hide (unhide HEE (nthE h k))
  rw [decide_eq_true rfl] at HEN
  have HML := Lib.hid (fun m (hm : m ∈ mixesF h) => And.intro (mixes_own hok hm).2.2 (show m.length ≤ 8 by have := (mixes_own hok hm).2.1; omega))
  have HLN := Lib.hid (mixes_len h8')
  have hk : (nthE h k = 1 ∧ nthL h k = [] ∧ (k < 0 ∨ (0 ≤ k ∧ ((mixesF h).length : Int) ≤ k))) ∨ ∃ j : Nat, k = (j : Int) ∧ j < (mixesF h).length ∧ nthE h k = 0 ∧ (mixesF h)[j]? = some (nthL h k) := by
    by_cases hin : 0 ≤ k ∧ k < (mixesF h).length
    · obtain ⟨j, rfl⟩ := Int.eq_ofNat_of_zero_le hin.1
      have hj : j < (mixesF h).length := by omega
      have e : nthE h (j : Int) = 0 := by unfold nthE; rw [if_neg (by omega), if_pos hin]
      refine .inr ⟨j, rfl, hj, e, ?_⟩
      unfold nthL
      rw [if_pos e, List.getD_eq_getElem?_getD, List.getElem?_eq_getElem (by simpa using hj)]
      simp [List.getElem?_eq_getElem hj]
    · have e : nthE h k = 1 := by unfold nthE; rw [if_neg (by omega), if_neg hin]
      exact .inl ⟨e, by unfold nthL; rw [if_neg (by omega)], by omega⟩
  clear hE hr he hok h8'
  generalize nthE h k = ne at *
  generalize nthL h k = nl at *
  generalize errV ne = vE at *
  generalize mixesF h = ML at *
  have h8n : ¬ 8 < (n : Int) := by omega
  go_enter Tryz.func3, Tryz.ntmps3
  go_wp2_with fail
  refine (unhide CR).mono ?_
  rintro e w1 ⟨rfl, hb1⟩
  go_wp2_with fail
  refine (unhide CA w1 hb1).mono ?_
  rintro e w2 ⟨v2, xs, rfl, hown, heach, hb2⟩
  have hbw2 := hb1.trans (hb2.mono hb1.size)
  obtain ⟨A2, c2, rfl⟩ := own_slice hown
  have HOW := hide (fun w' (hb : Below w2.heap.size w2 w') => own_below hown hb (Nat.le_refl _))
  have HEA := hide (fun w' (hb : Below w2.heap.size w2 w') => heach.below hb)
  clear hown heach hb2 hb1 CR CA
  obtain ⟨N, hN⟩ : ∃ N, ML.length = N := ⟨_, rfl⟩
  rw [hN] at HOW CC HLN hk ⊢
  have HN := Lib.hid hN
  clear hN
  go_wp2
  go_loopw [7, 8] (fun s7 s8 wr => ∃ i : Nat, i ≤ N ∧ s7 = .int .i64 (goodN (ML.take i)) ∧ s8 = .int .i64 i ∧ Below w2.heap.size w2 wr) (fun _ s8 _ => N - (intOf s8).toNat)
  case atStart => exact ⟨0, Nat.zero_le _, rfl, rfl, Below.refl _ _⟩
  case round =>
    obtain ⟨i, hi, rfl, rfl, hbr⟩ := hrel
    have hnn := HLN.out
    by_cases hlt : i < N
    · have hltI : (i : Int) < (N : Int) := by omega
      have hi0 : (0 : Int) ≤ (i : Int) := by omega
      obtain ⟨m, hmi⟩ : ∃ m, ML[i]? = some m := ⟨_, List.getElem?_eq_getElem (by have := HN.out; omega)⟩
      obtain ⟨x, hx, q, hsl⟩ := (unhide HEA wr hbr).get hmi
      obtain ⟨Ax, cx, rfl⟩ := own_slice hsl
      obtain ⟨b, off, rfl, hbl, hcl⟩ := (rd_own (unhide HOW wr hbr)).2 (by omega)
      have p0 := hcl i _ hx
      have C := hide (rorder_any Ax q cx m wr (rd_own hsl) (HML.out m (List.mem_of_getElem? hmi)).1)
      unfold OrdPost at C
      have hgs : goodN (ML.take (i + 1)) = goodN (ML.take i) + (if (orderOf m).isSome = true then 1 else 0) := by rw [takeSnoc hmi, goodN_snoc]
      have hgl : goodN (ML.take i) ≤ i := Nat.le_trans (goodN_le _) (List.length_take_le _ _)
      have HGS := Lib.hid hgs
      clear hcl hsl hx hgs hmi
      generalize goodN (ML.take i) = gq at *
      go_wp2_with fail
      refine (unhide C).mono ?_
      rintro e w3 ⟨v3, q3, r3, L3, rfl, ho3, hcs, hb3⟩
      have hbr3 := hbr.trans (hb3.mono hbr.size)
      obtain ⟨A3, c3, rfl⟩ := own_slice ho3
      rcases hcs with ⟨ht, rfl⟩ | ⟨ht, rfl, _⟩
      · have HT : Hid (goodN (ML.take (i + 1)) = gq + 1) := Lib.hid (by rw [HGS.out, ht]; rfl)
        clear ht ho3 hb3 hbr C HGS p0
        go_wp2
        go_roundw
        case rel => exact ⟨i + 1, by omega, by rw [HT.out]; go_num, by go_num, hbr3⟩
        case measure => simp [intOf]; omega
      · have HT : Hid (goodN (ML.take (i + 1)) = gq) := Lib.hid (by rw [HGS.out, ht]; rfl)
        clear ht ho3 hb3 hbr C HGS p0
        go_wp2
        go_roundw
        case rel => exact ⟨i + 1, by omega, by rw [HT.out], by go_num, hbr3⟩
        case measure => simp [intOf]; omega
    · obtain rfl : i = N := by omega
      have hgt : ML.take i = ML := by rw [← HN.out, List.take_length]
      rw [hgt]
      generalize goodN ML = gq at *
      have hbwr := hbw2.trans (hbr.mono hbw2.size)
      clear hgt
      go_wp2_with fail
      refine (unhide CC _ hbwr).mono ?_
      rintro e w3 ⟨rfl, hb3⟩
      have hbr3 := hbr.trans (hb3.mono hbr.size)
      have hbw3 := hbw2.trans (hbr3.mono hbw2.size)
      go_wp2_with fail
      refine (unhide HEF _ hbw3).mono ?_
      rintro e w4 ⟨rfl, hb4⟩
      have hbr4 := hbr3.trans (hb4.mono hbr3.size)
      have hbw4 := hbw2.trans (hbr4.mono hbw2.size)
      go_wp2_with fail
      refine (unhide CG _ hbw4).mono ?_
      rintro e w5 ⟨rfl, hb5⟩
      have hbr5 := hbr4.trans (hb5.mono hbr4.size)
      have hbw5 := hbw2.trans (hbr5.mono hbw2.size)
      go_wp2_with fail
      refine (unhide HEF _ hbw5).mono ?_
      rintro e w6 ⟨rfl, hb6⟩
      have hbr6 := hbr5.trans (hb6.mono hbr5.size)
      have hbw6 := hbw2.trans (hbr6.mono hbw2.size)
      clear hb3 hb4 hb5 hb6 hbr3 hbr4 hbr5 hbw3 hbw4 hbw5 CC CG HEF hlt
      rcases hk with ⟨rfl, rfl, hk⟩ | ⟨j, rfl, hj, rfl, hml⟩
      · have hkk : k < 0 ∨ (¬ k < 0 ∧ (i : Int) ≤ k) := by omega
        rcases hkk with hkk | ⟨hk1, hk2⟩
        all_goals
          go_wp2_with fail
          refine (unhide CN _ hbw6).mono ?_
          rintro e w7 ⟨A7, n7, c7, rfl, hnc7, hr7, hb7⟩
          have hl7 := hr7.hlen
          have HR7 := hide (fun w' (hb : Below w7.heap.size w7 w') => (hr7.below hb).more hb.size)
          clear hr7
          have hbw7 := hbw6.trans (hb7.mono hbw6.size)
          go_wp2_with fail
          refine (unhide HEN _ hbw7).mono ?_
          rintro e w8 ⟨rfl, hb8⟩
          have hbw8 := hbw7.trans (hb8.mono hbw7.size)
          have CO := hide (ops_any A7 none n7 0 c7 0 [] [] w8 (unhide HR7 _ hb8) (rd_nilM _ _) (by simp at hl7; omega))
          rw [decide_eq_true rfl] at CO
          clear hb7 hb8 hbw7 HR7
          go_wp2_with fail
          refine (unhide CO).mono ?_
          rintro e w9 ⟨rfl, hb9⟩
          have hbw9 := hbw8.trans (hb9.mono hbw8.size)
          go_wp2
          go_ret
          exact ⟨rfl, hbw9⟩
      · have hk1 : ¬ (j : Int) < 0 := by omega
        have hk0 : (0 : Int) ≤ (j : Int) := by omega
        have hk2 : (j : Int) < (i : Int) := by omega
        have hk3 : ¬ (i : Int) ≤ (j : Int) := by omega
        obtain ⟨x, hx, q, hsl⟩ := (unhide HEA w6 hbr6).get hml
        obtain ⟨Ax, cx, rfl⟩ := own_slice hsl
        obtain ⟨b, off, rfl, hbl, hcl⟩ := (rd_own (unhide HOW w6 hbr6)).2 (by omega)
        have p0 := hcl j _ hx
        have HSL := hide (fun w' (hb : Below w6.heap.size w6 w') => rd_own (own_below hsl hb (Nat.le_refl _)))
        have h8n : nl.length ≤ 8 := (HML.out nl (List.mem_of_getElem? hml)).2
        clear hcl hsl hx hml
        go_wp2_with fail
        refine (unhide CN _ hbw6).mono ?_
        rintro e w7 ⟨A7, n7, c7, rfl, hnc7, hr7, hb7⟩
        have h7n : n7 ≤ 8 := by have := hr7.hlen; omega
        have HR7 := hide (fun w' (hb : Below w7.heap.size w7 w') => (hr7.below hb).more hb.size)
        clear hr7
        have hbw7 := hbw6.trans (hb7.mono hbw6.size)
        go_wp2_with fail
        refine (unhide HEN _ hbw7).mono ?_
        rintro e w8 ⟨rfl, hb8⟩
        have hbw8 := hbw7.trans (hb8.mono hbw7.size)
        have hrx := unhide HSL w8 (hb7.trans (hb8.mono hb7.size))
        have CO := hide (ops_any A7 Ax n7 q c7 cx nl nl w8 (unhide HR7 _ hb8) hrx (by omega))
        rw [decide_eq_true rfl] at CO
        clear hb7 hb8 hbw7 HR7 hrx HSL
        go_wp2_with fail
        refine (unhide CO).mono ?_
        rintro e w9 ⟨rfl, hb9⟩
        have hbw9 := hbw8.trans (hb9.mono hbw8.size)
        go_wp2
        go_ret
        exact ⟨rfl, hbw9⟩
theorem walk (A : Option Addr) (n c : Nat) (h : List HOp) (k : Int) (w : World) (hE : Et w) (hr : Rd w w.heap.size 3 A n (cellsH h)) (hn : n * 24 ≤ 140737488351232) :
    Calls Tryz.prog 3 #[.slice A n c, .int .i64 k] w fun e w' => e = .returned (.bool true) ∧ Below w.heap.size w w' := by
  by_cases he : mixE h = 0
  · exact walk_ok A n c h k w hE hr he
  · exact walk_no A n c h k w hE hr hn he
theorem bytes_ops : Tryz.prog.bytesOf 54 = 24 := by kernel_rfl

/-! ### The row. -/
set_option maxRecDepth 100000 in
theorem lifted (os : Os) (started : os.Started) (H : Type) (enc : TypeId × Value → H) :
    ReturnsInHanded {} Tryz.checked os 3 .any (fun w args => (Rows.mixTellsSpec.pre enc Tryz.prog Tryz.f3 [] false w args ∧ laidMetH Tryz.prog dLaid w) ∧ sizedMet enc Tryz.prog Tryz.f3 (OpenSpec.ofChange Rows.mixTellsSpec) false w args) (Rows.mixTellsSpec.post enc Tryz.prog Tryz.f3 false true false false) := by
  refine returnsInHanded_of_change_and (C := Tryz.checked) (X := fun w _ => laidMetH Tryz.prog dLaid w) (fun _ _ _ hh h => h.of_heap hh) dOwn started (by kernel_rfl) Tryz.func3
    (ChangeSpec.witness_at (enc := enc) (C := Tryz.checked) (os := os) (X := fun w _ => laidMetH Tryz.prog dLaid w) false (laidWorld os) #[.slice none 0 0, .int .i64 0] 8 rfl (by kernel_rfl) (by kernel_rfl) (by kernel_rfl) (by kernel_rfl) (by kernel_rfl) (laidWorld_met os _)) ?_
  intro W base args ds gs before hval0 hW hcnd hsz0 hL _
  have hval : ∀ (j : Nat) t v, Tryz.f3.params[j]? = some t → args[j]? = some v → Value.okWide Tryz.prog W .any base t v := hval0
  have hW' := hW
  obtain ⟨p, q, hA0, hV, rfl, hfz, hnd⟩ := hW
  have hA : DataW.TrodAll enc Tryz.prog W 0 (fun _ => true) true Tryz.f3.params.toList args.toList ds p := hA0
  have hsz : (DataW.weightsEach Tryz.prog (Tryz.f3.params.toList ++ Rows.mixTellsSpec.plain.varTypes Tryz.prog) (ds ++ gs)).all (· ≤ reachBytes) = true := hsz0
  rw [Tryz.params3] at hA hval hsz
  obtain ⟨v0, vs0, d0, ds0, p0, q0, hargs, rfl, rfl, h0, r0⟩ := trodAll_cons hA
  obtain ⟨v1, vs1, d1, ds1, p1, q1, rfl, rfl, rfl, h1, r1⟩ := trodAll_cons r0
  obtain ⟨rfl, rfl, rfl⟩ := trodAll_nil r1
  obtain rfl : args = #[v0, v1] := by cases args; simp_all
  obtain ⟨rfl, rfl⟩ := trodVars_none hV
  simp only [List.append_nil] at hW'
  have hk0 := h0
  have hlt0 : ∀ x ∈ p0, x.block < W.heap.size := fun x hx => hW'.lt x (by simp [hx])
  obtain ⟨A0, n0, c0, l0, rfl, rd0, bd0⟩ := open_ops Tryz.underlying22 Tryz.underlying54 Tryz.underlying3 rfl rfl rfl (by kernel_rfl) (by kernel_rfl) (hval 0 22 v0 rfl rfl) h0 (fun e s he => by have := sized_slice hsz (j := 0) (t := 22) (e := 54) rfl (congrArg some he) Tryz.underlying22; rwa [bytes_ops] at this)
  obtain ⟨a1, rfl, rfl, rfl, w1⟩ := open_int Tryz.underlying3 (hval 1 3 v1 rfl rfl) h1
  clear hA0 hval0
  refine (walk A0 n0 c0 l0 a1 W (et_of_laid hL) rd0 bd0).mono fun e W' ⟨he, hg⟩ => ?_
  subst he
  exact ⟨_, rfl, post_slices (pa := _) (pv := []) hW' hg (by simp) (fun _ _ _ => (trodAll_cons_mk (shut_bool Tryz.underlying4 _) trodAll_mk0)) (trodAll_cons_mk (Below.trod laidOut (by kernel_rfl) (of_decide_eq_true (by kernel_rfl)) hk0 hg hlt0) (trodAll_cons_mk (shut_int Tryz.underlying3 w1) trodAll_mk0)) rfl⟩

theorem over : Rows.MixTellsSaid :=
  OpenClaim.holds_of_wide 3 Tryz.f3 rfl rfl rfl rfl rfl rfl rfl ⟨rfl, rfl, rfl, rfl, rfl⟩ rfl rfl rfl rfl rfl (by kernel_rfl) Tryz.func3 (by kernel_rfl)
    (of_decide_eq_true (by kernel_rfl)) (by unfold Func.isWrapper; first | (rw [if_pos (by decide +kernel)]; kernel_rfl) | (rw [if_neg (by decide +kernel)]; exact ⟨rfl, rfl⟩))
    (fun os started H enc _ => lifted os started H enc)

/-- The statement: the tied card. -/
theorem proved : Rows.MixTellsCardSaid :=
  Claim7.holds_tied_plain_at .later [] [.handle] true _ true
    over (fun _ h => by cases h) (by kernel_rfl) (fun _ h => by cases h) mixTells_row_tie rfl ⟨rfl, rfl⟩ (by kernel_rfl) rfl
    (fun f fn hf hfn => by
      obtain rfl : f = 3 := Option.some.inj ((show Tryz.prog.funcNamed "locklane/lanelaw3.MixTells" = some 3 by kernel_rfl).symm.trans hf) |>.symm
      obtain rfl : fn = Tryz.f3 := (Option.some.inj (Tryz.func3.symm.trans hfn)).symm
      exact ⟨by kernel_rfl, fun j t ht => by
        rw [Tryz.params3] at ht
        have hm : t ∈ [22, 3] := by have := Array.mem_of_getElem? ht; simpa using this
        have hall : ([22, 3].all fun u => !Tryz.prog.wantsStandIn u) = true := by kernel_rfl
        exact (show Tryz.prog.wantsStandIn t = false by simpa using List.all_eq_true.1 hall t hm)⟩)
    (by kernel_rfl)
#print axioms proved
end Go.Proofs.YtmamejkdheigjaaGreatDoor.mixTells

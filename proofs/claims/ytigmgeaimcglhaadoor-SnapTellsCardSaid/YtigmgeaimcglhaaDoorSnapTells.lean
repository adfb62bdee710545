
/-
  PROVED: lanelaw2.SnapTells returns true, for every list of ops: who runs together with whom, and what snapshots come to, as the reference says. The variable errors.errorType starts as the program's text lays it (the card's tie); no condition beyond the form's own reach.
-/
import Derived.Test.YtigmgeaimcglhaaDoorVD1
import Derived.Test.YtigmgeaimcglhaaDoorVD3
import Derived.Test.YtigmgeaimcglhaaDoorRR1
import Derived.Test.YtigmgeaimcglhaaDoorTells2
import Derived.Test.YtigmgeaimcglhaaDoorTellsN
import Derived.Test.YtigmgeaimcglhaaDoorE1

namespace Go.Proofs.YtigmgeaimcglhaaDoor.snapTells
open Go.ChangeShapes Go.WideShapes Go.ChangeAt Go.RowKit Go.Proofs.YtigmgeaimcglhaaDoor

def rowT (a : Dl) (l : List Dl) : List (Int × Int) := (l.filter (togD a)).map fun b => (a.tx, b.tx)
def allT (ds l : List Dl) : List (Int × Int) := l.flatMap fun a => rowT a ds
theorem rowT_step {a d : Dl} {l r : List Dl} (h : l = d :: r) : rowT a l = if togD a d then (a.tx, d.tx) :: rowT a r else rowT a r := by
  subst h
  unfold rowT
  rw [List.filter_cons]
  split <;> rfl
theorem allT_step {ds : List Dl} {a : Dl} {l r : List Dl} (h : l = a :: r) : allT ds l = rowT a ds ++ allT ds r := by
  subst h
  exact List.flatMap_cons

set_option maxRecDepth 100000 in
set_option maxHeartbeats 8000000 in
theorem walk (A : Option Addr) (n c : Nat) (h : List HOp) (w : World) (hE : Et w) (hr : Rd w w.heap.size 3 A n (cellsH h)) (hn : n * 24 ≤ 140737488351232) :
    Calls Tryd.prog 4 #[.slice A n c] w fun e w' => e = .returned (.bool true) ∧ Below w.heap.size w w' := by
  have hm : n ≤ 6000000000000 := by omega
  have hz0 := hE.pos
  by_cases hok : okH h
  · have H0 : Hid ((checkF h).2 = 0) := Lib.hid hok
    have CR := hide (rright_any A n c h w hr hm)
    have CQ := hide (fun w1 (hb : Below w.heap.size w w1) => rrun2_any A n c h w1 ((hr.below hb).more hb.size) hok)
    have CT := hide (fun w1 (hb : Below w.heap.size w w1) => together_any A n c h w1 ((hr.below hb).more hb.size) hm hok)
    have CS := hide (fun w1 (hb : Below w.heap.size w w1) => snap_run A n c h w1 ((hr.below hb).more hb.size) hm hok)
    have CE := hide (fun w1 (hb : Below w.heap.size w w1) => tells2_ok A n c h w1 (hE.below hb hz0) ((hr.below hb).more hb.size) hm hok)
    have HE := hide hE
    have HLN := Lib.hid (okH_len hok)
    rw [← ref_snap hok] at CT CS
    clear hr hE hok hn
    generalize playV (refR 2) h = s at *
    go_enter Tryd.func4, Tryd.ntmps4
    go_wp2_with fail
    refine (unhide CR).mono ?_
    rw [H0.out]
    rintro e w1 ⟨rfl, hb1⟩
    go_wp2_with fail
    refine (unhide CQ w1 hb1).mono ?_
    rintro e w2 ⟨L, tag, rfl, H, I, hb2⟩
    obtain ⟨Ad, cd, hvd⟩ := own_slice H.done
    have hdr := (H.drow hvd).2
    rw [hvd]
    have hbw2 := hb1.trans (hb2.mono hb1.size)
    have hdn : s.dn.length ≤ 40 := by have := I.ok.dn; have := HLN.out; omega
    obtain ⟨nd, hnd⟩ : ∃ nd, s.dn.length = nd := ⟨_, rfl⟩
    rw [hnd] at hdr hdn ⊢
    have HR := hide (fun w' (hb : Below w2.heap.size w2 w') => (hdr.below hb).more hb.size)
    have HL := Lib.hid hdr.1
    have HB2 := hide (fun w' (hb : Below w2.heap.size w2 w') => show Below w.heap.size w w' from hbw2.trans (hb.mono hbw2.size))
    obtain ⟨R, hR⟩ : ∃ R, sortS ltE (rawP togD (doneD s)) = R := ⟨_, rfl⟩
    have HF : Hid (R = sortGo ltE [] (allT (doneD s) ((doneD s).drop 0))) := Lib.hid hR.symm
    rw [hR] at CT
    clear hR hdr hvd H I hb1 hb2 hbw2 CR CQ hnd
    generalize doneD s = ds at *
    have hb0 : Below w2.heap.size w2 w2 := Below.refl _ _
    go_wp2
    go_loopw [4, 6, 7, 8] (fun s4 s6 _ _ wr => ∃ (i m c3 : Nat) (A3 : Option Addr) (acc : List (Int × Int)), i ≤ nd ∧ s6 = .int .i64 i ∧ s4 = .slice A3 m c3 ∧ m ≤ c3 ∧ Rd wr wr.heap.size 2 A3 m (dcells acc) ∧ m ≤ i * 41 ∧ Hid (R = sortGo ltE acc (allT ds (ds.drop i))) ∧ Below w2.heap.size w2 wr) (fun _ s6 _ _ _ => nd - (intOf s6).toNat)
    case atStart => exact ⟨0, 0, 0, none, [], Nat.zero_le _, rfl, rfl, Nat.le_refl _, Rd.nil, Nat.zero_le _, HF, hb0⟩
    case round =>
      clear HF hb0
      obtain ⟨i, m, c3, A3, acc, hi, rfl, rfl, hmc, hd3, hmi, HX, hbw⟩ := hrel
      by_cases hlt : i < nd
      · have hai : ds[i]? = some (ds[i]'(by rw [HL.out]; exact hlt)) := List.getElem?_eq_getElem _
        generalize ds[i]'(by rw [HL.out]; exact hlt) = a at *
        have HAI := Lib.hid hai
        have HX2 : Hid (R = sortGo ltE acc (rowT a (ds.drop 0) ++ allT ds (ds.drop (i + 1)))) := Lib.hid (by rw [HX.out, allT_step (drop_at hai)]; rfl)
        obtain ⟨REST, hREST⟩ : ∃ REST, allT ds (ds.drop (i + 1)) = REST := ⟨_, rfl⟩
        rw [hREST] at HX2
        have HRT := Lib.hid hREST
        clear hai HX hREST
        go_wp2
        go_loopw [4, 7, 8] (fun s4 s7 _ wx => ∃ (k m c3 : Nat) (A3 : Option Addr) (acc : List (Int × Int)), k ≤ nd ∧ s7 = .int .i64 k ∧ s4 = .slice A3 m c3 ∧ m ≤ c3 ∧ Rd wx wx.heap.size 2 A3 m (dcells acc) ∧ m ≤ i * 41 + k ∧ Hid (R = sortGo ltE acc (rowT a (ds.drop k) ++ REST)) ∧ Below w2.heap.size w2 wx) (fun _ s7 _ _ => nd - (intOf s7).toNat)
        case atStart => exact ⟨0, m, c3, A3, acc, Nat.zero_le _, rfl, rfl, hmc, hd3, by omega, HX2, hbw⟩
        case round =>
          clear HX2 hd3 hbw hmc hmi
          obtain ⟨k, m, c3, A3, acc, hk, rfl, rfl, hmc, hd3, hmk, HX, hbw⟩ := hrel
          by_cases hlk : k < nd
          · obtain ⟨b, off, d, As, ns, cs, Aw, nw, cw, he, hb, hd, c0, c1, c2, c3', c4, h3, h4⟩ := (unhide HR wr hbw).2 i hlt
            cases he
            rw [HAI.out] at hd
            cases hd
            obtain ⟨_, _, d, Bs, ns2, cs2, Bw, nw2, cw2, he, _, hd, e0, e1, e2, e3, e4, g3, g4⟩ := (unhide HR wr hbw).2 k hlk
            cases he
            have HS := Lib.hid (rowT_step (a := a) (drop_at hd))
            have HD := Lib.hid hd
            have CA := hide (ratOnce_any a d (.slice As ns cs) (.slice Aw nw cw) (.slice Bs ns2 cs2) (.slice Bw nw2 cw2) wr.drew)
            obtain ⟨qq, hqq⟩ : ∃ qq : Bool, atOnceD a d = qq := ⟨_, rfl⟩
            rw [hqq] at CA
            have HTG : Hid (togD a d = (decide (a.tx < d.tx) && qq)) := Lib.hid (by unfold togD; rw [hqq])
            unfold dVal at CA
            have n0 : (0 : Int) ≤ (i : Int) := by omega
            have n1' : (i : Int) < (nd : Int) := by omega
            have n2 : (0 : Int) ≤ (k : Int) := by omega
            have n3 : (k : Int) < (nd : Int) := by omega
            have hbd : Below w2.heap.size w2 wr.drew := hbw.drew
            have hdd : Rd wr.drew wr.drew.heap.size 2 A3 m (dcells acc) := hd3
            have hzd : wr.drew.heap.size = wr.heap.size := rfl
            clear hd hqq g3 g4 h3 h4
            go_wp2
            go_still_tail 8, (by kernel_rfl)
            change wpList _ _ _ _ _ wr.drew
            go_wp2_with fail
            refine (unhide CA).mono ?_
            rintro e wy ⟨rfl, hby⟩
            have hbwy := hbd.trans (hby.mono hbd.size)
            have hd3y := (hdd.below hby).more hby.size
            clear hby hbw hd3 hdd hbd CA c0 c1 c2 c3' c4 e0 e1 e2 e3 e4
            obtain ⟨b, off, d', As, ns, cs, Aw, nw, cw, he, hb, hd, c0, c1, c2, c3', c4, h3, h4⟩ := (unhide HR wy hbwy).2 i hlt
            cases he
            rw [HAI.out] at hd
            cases hd
            obtain ⟨_, _, d', Bs, ns2, cs2, Bw, nw5, cw2, he, _, hd, e0, e1, e2, e3, e4, g3, g4⟩ := (unhide HR wy hbwy).2 k hlk
            cases he
            rw [HD.out] at hd
            cases hd
            clear h3 h4 g3 g4 c1 c2 c3' c4 e1 e2 e3 e4
            by_cases hab : a.tx < d.tx
            · have tab : decide (a.tx < d.tx) = true := decide_eq_true hab
              cases qq
              · have HX3 : Hid (R = sortGo ltE acc (rowT a (ds.drop (k + 1)) ++ REST)) := Lib.hid (by
                  rw [HX.out, HS.out, if_neg (by rw [HTG.out]; simp)])
                clear HX HS hab
                go_wp2
                go_quiet (fail)
                go_wp2
                go_roundw
                case rel => exact ⟨k + 1, m, c3, A3, acc, by omega, by go_num, rfl, hmc, hd3y, by omega, HX3, below_drewN hbwy _⟩
                case measure => simp [intOf]; omega
              · have HX3 : Hid (R = sortGo ltE (insS ltE (a.tx, d.tx) acc) (rowT a (ds.drop (k + 1)) ++ REST)) := Lib.hid (by
                  rw [HX.out, HS.out, if_pos (by rw [HTG.out, tab]; rfl)]; rfl)
                have CAdd := hide (fun N => radd_any A3 m c3 acc a.tx d.tx (wy.drewN N).drew hd3y (by omega) hmc)
                have HBN := hide (fun N => below_drewN hbwy N)
                clear HX HS hab hd3y hbwy
                go_wp2
                go_quiet (fail)
                have c0q : (wy.drewN nq).cell? ⟨b, off + i * 5, none⟩ = some (.int .i64 a.tx) := c0
                have e0q : (wy.drewN nq).cell? ⟨b, off + k * 5, none⟩ = some (.int .i64 d.tx) := e0
                have CA2 := hide (unhide CAdd nq)
                have hbn := (unhide HBN nq).drew
                clear c0 e0 CAdd HBN
                generalize wy.drewN nq = wq at *
                go_wp2
                go_still_tail 12, (by kernel_rfl)
                change wpList _ _ _ _ _ wq.drew
                go_wp2_with fail
                refine (unhide CA2).mono ?_
                rintro e wz ⟨A', n', c', rfl, hnc, hdz, hnn, hbz⟩
                have hbwz := hbn.trans (hbz.mono hbn.size)
                go_wp2
                go_roundw
                case rel => exact ⟨k + 1, n', c', A', _, by omega, by go_num, rfl, hnc, hdz, by omega, HX3, hbwz⟩
                case measure => simp [intOf]; omega
            · have tab : decide (a.tx < d.tx) = false := decide_eq_false hab
              have HX3 : Hid (R = sortGo ltE acc (rowT a (ds.drop (k + 1)) ++ REST)) := Lib.hid (by
                rw [HX.out, HS.out, if_neg (by rw [HTG.out, tab]; simp)])
              clear HX HS hab
              go_wp2
              go_quiet (fail)
              go_wp2
              go_roundw
              case rel => exact ⟨k + 1, m, c3, A3, acc, by omega, by go_num, rfl, hmc, hd3y, by omega, HX3, below_drewN hbwy _⟩
              case measure => simp [intOf]; omega
          · have HX3 : Hid (R = sortGo ltE acc (allT ds (ds.drop (i + 1)))) := Lib.hid (by
              have e : ds.drop k = [] := drop_end (by rw [HL.out]; omega)
              rw [HRT.out, HX.out, e]; rfl)
            clear HX
            go_wp2
            go_roundw
            case rel => exact ⟨i + 1, m, c3, A3, acc, by omega, by go_num, rfl, hmc, hd3, by omega, HX3, hbw⟩
            case measure => simp [intOf]; omega
      · have HT : Hid (R = acc) := Lib.hid (by rw [HX.out, drop_end (by rw [HL.out]; omega)]; rfl)
        have HD4 := hide (fun w' (hb : Below wr.heap.size wr w') => (hd3.below hb).more hb.size)
        have hw3 := unhide HB2 wr hbw
        have CTg := hide (unhide CT wr hw3)
        have hm2 : m ≤ 1000000000000 := by omega
        clear HX hd3 hbw CT HR HB2
        go_wp2_with fail
        refine (unhide CTg).mono ?_
        rintro e w4 ⟨A', m', c', rfl, hx, hm', hb4⟩
        have hbw4 := hw3.trans (hb4.mono hw3.size)
        have ER := error_any 0 0 w4 ((unhide HE).below hbw4 hz0)
        rw [errV_zero, decide_eq_true rfl] at ER
        have HER := hide ER
        clear ER CTg
        go_wp2_with fail
        refine (unhide HER).mono ?_
        rintro e w5 ⟨rfl, hb5⟩
        have hbw5 := hbw4.trans (hb5.mono hbw4.size)
        have CG := edgesS_any A' A3 m' m c' c3 _ _ w5 ((hx.below hb5).more hb5.size) (unhide HD4 w5 (hb4.trans (hb5.mono hb4.size))) (by omega)
        rw [HT.out, decide_eq_true rfl] at CG
        have HCG := hide CG
        clear CG hx hb4 hb5 HER HD4
        go_wp2_with fail
        refine (unhide HCG).mono ?_
        rintro e w6 ⟨rfl, hb6⟩
        have hbw6 := hbw5.trans (hb6.mono hbw5.size)
        have CV := hide (unhide CS w6 hbw6)
        clear HCG hb6
        go_wp2_with fail
        refine (unhide CV).mono ?_
        rintro e w7 ⟨A1, c1, A2, c2, b, n1, n2, rfl, h1, h2, h3, hb7, _⟩
        have hbw7 := hbw6.trans (hb7.mono hbw6.size)
        have hBg := Blk.new w7 26 [.slice A1 n1 c1, .slice A2 n2 c2, .slice (some ⟨b, 0, none⟩) 6 6]
        have hbg : Below w7.heap.size w7 (w7.alloc (.cells #[.slice A1 n1 c1, .slice A2 n2 c2, .slice (some ⟨b, 0, none⟩) 6 6] 26)) := (Below.refl _ _).alloc (Nat.le_refl _) _
        have hbw8 := hbw7.trans (hbg.mono hbw7.size)
        have CU := hide (unhide CE _ hbw8 A1 A2 (some ⟨b, 0, none⟩) n1 n2 6 c1 c2 6 ((h1.below hbg).more hbg.size) ((h2.below hbg).more hbg.size) ((h3.below hbg).more hbg.size))
        have z0 := hBg.cellS (i := 0) (v := .slice A1 n1 c1) rfl
        have z1 := hBg.cellS (i := 1) (v := .slice A2 n2 c2) rfl
        have z2 := hBg.cellS (i := 2) (v := .slice (some ⟨b, 0, none⟩) 6 6) rfl
        clear h1 h2 h3 CS CE CV hBg hbg hb7
        go_wp2_with fail
        refine (unhide CU).mono ?_
        rintro e w9 ⟨rfl, hb9⟩
        have hbw9 := hbw8.trans (hb9.mono hbw8.size)
        go_wp2
        go_ret
        exact ⟨rfl, hbw9⟩
  · have CR := hide (rright_any A n c h w hr hm)
    have CT := hide (fun w1 (hb : Below w.heap.size w w1) => together_no A n c h w1 ((hr.below hb).more hb.size) hm hok)
    have CS := hide (fun w1 (hb : Below w.heap.size w w1) => snap_no A n c h w1 ((hr.below hb).more hb.size) hm hok)
    have CE := hide (fun w1 (hb : Below w.heap.size w w1) => tells_no 2 A n c h w1 (hE.below hb hz0) ((hr.below hb).more hb.size) hm hok)
    have HE := hide hE
    have hne : (checkF h).2 ≠ 0 := hok
    have HNE := Lib.hid (ne_errV hne)
    clear hr hE hn hok
    generalize (checkF h).2 = ev at *
    have hne2 : (ev == 0) = false := by simpa using hne
    have HERR := hide (fun w1 (hb : Below w.heap.size w w1) => error_any ev ev w1 ((unhide HE).below hb hz0))
    rw [decide_eq_true rfl] at HERR
    rw [HNE.out] at CT CS CE HERR
    clear hne HE
    go_enter Tryd.func4, Tryd.ntmps4
    go_wp2_with fail
    refine (unhide CR).mono ?_
    rintro e w1 ⟨rfl, hb1⟩
    go_wp2_with fail
    refine (unhide CT w1 hb1).mono ?_
    rintro e w4 ⟨rfl, hb4⟩
    have hbw4 := hb1.trans (hb4.mono hb1.size)
    clear hb4
    go_wp2_with fail
    refine (unhide HERR w4 hbw4).mono ?_
    rintro e w5 ⟨rfl, hb5⟩
    have hbw5 := hbw4.trans (hb5.mono hbw4.size)
    have CG := edgesS_any none none 0 0 0 0 [] [] w5 Rd.nil Rd.nil (by omega)
    rw [decide_eq_true rfl] at CG
    have HCG := hide CG
    clear CG hb5
    go_wp2_with fail
    refine (unhide HCG).mono ?_
    rintro e w6 ⟨rfl, hb6⟩
    have hbw6 := hbw5.trans (hb6.mono hbw5.size)
    clear hb6
    go_wp2_with fail
    refine (unhide CS w6 hbw6).mono ?_
    rintro e w7 ⟨rfl, hb7⟩
    have hbw7 := hbw6.trans (hb7.mono hbw6.size)
    have hBg := Blk.new w7 26 [.slice none 0 0, .slice none 0 0, .slice none 0 0]
    have hbg : Below w7.heap.size w7 (w7.alloc (.cells #[.slice none 0 0, .slice none 0 0, .slice none 0 0] 26)) := (Below.refl _ _).alloc (Nat.le_refl _) _
    have hbw8 := hbw7.trans (hbg.mono hbw7.size)
    have CU := hide (unhide CE _ hbw8)
    have z0 := hBg.cellS (i := 0) (v := .slice none 0 0) rfl
    have z1 := hBg.cellS (i := 1) (v := .slice none 0 0) rfl
    have z2 := hBg.cellS (i := 2) (v := .slice none 0 0) rfl
    clear CT CS CE hBg hbg hb7
    go_wp2_with fail
    refine (unhide CU).mono ?_
    rintro e w9 ⟨rfl, hb9⟩
    have hbw9 := hbw8.trans (hb9.mono hbw8.size)
    go_wp2
    go_ret
    exact ⟨rfl, hbw9⟩
theorem bytes_ops : Tryd.prog.bytesOf 68 = 24 := by kernel_rfl

/-! ### The row. -/
set_option maxRecDepth 100000 in
theorem lifted (os : Os) (started : os.Started) (H : Type) (enc : TypeId × Value → H) :
    ReturnsInHanded {} Tryd.checked os 4 .any (fun w args => (Rows.snapTellsSpec.pre enc Tryd.prog Tryd.f4 [] false w args ∧ laidMetH Tryd.prog dLaid w) ∧ sizedMet enc Tryd.prog Tryd.f4 (OpenSpec.ofChange Rows.snapTellsSpec) false w args) (Rows.snapTellsSpec.post enc Tryd.prog Tryd.f4 false true false false) := by
  refine returnsInHanded_of_change_and (C := Tryd.checked) (X := fun w _ => laidMetH Tryd.prog dLaid w) (fun _ _ _ hh h => h.of_heap hh) dOwn started (by kernel_rfl) Tryd.func4
    (ChangeSpec.witness_at (enc := enc) (C := Tryd.checked) (os := os) (X := fun w _ => laidMetH Tryd.prog dLaid w) false (laidWorld os) #[.slice none 0 0] 8 rfl (by kernel_rfl) (by kernel_rfl) (by kernel_rfl) (by kernel_rfl) (by kernel_rfl) (laidWorld_met os _)) ?_
  intro W base args ds gs before hval0 hW hcnd hsz0 hL _
  have hval : ∀ (j : Nat) t v, Tryd.f4.params[j]? = some t → args[j]? = some v → Value.okWide Tryd.prog W .any base t v := hval0
  have hW' := hW
  obtain ⟨p, q, hA0, hV, rfl, hfz, hnd⟩ := hW
  have hA : DataW.TrodAll enc Tryd.prog W 0 (fun _ => true) true Tryd.f4.params.toList args.toList ds p := hA0
  have hsz : (DataW.weightsEach Tryd.prog (Tryd.f4.params.toList ++ Rows.snapTellsSpec.plain.varTypes Tryd.prog) (ds ++ gs)).all (· ≤ reachBytes) = true := hsz0
  rw [Tryd.params4] at hA hval hsz
  obtain ⟨v0, vs0, d0, ds0, p0, q0, hargs, rfl, rfl, h0, r0⟩ := trodAll_cons hA
  obtain ⟨rfl, rfl, rfl⟩ := trodAll_nil r0
  obtain rfl : args = #[v0] := by cases args; simp_all
  obtain ⟨rfl, rfl⟩ := trodVars_none hV
  simp only [List.append_nil] at hW'
  have hk0 := h0
  have hlt0 : ∀ x ∈ p0, x.block < W.heap.size := fun x hx => hW'.lt x (by simp [hx])
  obtain ⟨A0, n0, c0, l0, rfl, rd0, bd0⟩ := open_ops Tryd.underlying22 Tryd.underlying68 Tryd.underlying3 rfl rfl rfl (by kernel_rfl) (by kernel_rfl) (hval 0 22 v0 rfl rfl) h0 (fun e s he => by have := sized_slice hsz (j := 0) (t := 22) (e := 68) rfl (congrArg some he) Tryd.underlying22; rwa [bytes_ops] at this)
  clear hA0 hval0
  refine (walk A0 n0 c0 l0 W (et_of_laid hL) rd0 bd0).mono fun e W' ⟨he, hg⟩ => ?_
  subst he
  exact ⟨_, rfl, post_slices (pa := _) (pv := []) hW' hg (by simp) (fun _ _ _ => (trodAll_cons_mk (shut_bool Tryd.underlying4 _) trodAll_mk0)) (trodAll_cons_mk (Below.trod laidOut (by kernel_rfl) (of_decide_eq_true (by kernel_rfl)) hk0 hg hlt0) trodAll_mk0) rfl⟩

theorem over : Rows.SnapTellsSaid :=
  OpenClaim.holds_of_wide 4 Tryd.f4 rfl rfl rfl rfl rfl rfl rfl ⟨rfl, rfl, rfl, rfl, rfl⟩ rfl rfl rfl rfl rfl (by kernel_rfl) Tryd.func4 (by kernel_rfl)
    (of_decide_eq_true (by kernel_rfl)) (by unfold Func.isWrapper; first | (rw [if_pos (by decide +kernel)]; kernel_rfl) | (rw [if_neg (by decide +kernel)]; exact ⟨rfl, rfl⟩))
    (fun os started H enc _ => lifted os started H enc)

/-- The statement: the tied card. -/
theorem proved : Rows.SnapTellsCardSaid :=
  Claim7.holds_tied_plain_at .later [] [.handle] true _ true
    over (fun _ h => by cases h) (by kernel_rfl) (fun _ h => by cases h) snapTells_row_tie rfl ⟨rfl, rfl⟩ (by kernel_rfl) rfl
    (fun f fn hf hfn => by
      obtain rfl : f = 4 := Option.some.inj ((show Tryd.prog.funcNamed "locklane/lanelaw2.SnapTells" = some 4 by kernel_rfl).symm.trans hf) |>.symm
      obtain rfl : fn = Tryd.f4 := (Option.some.inj (Tryd.func4.symm.trans hfn)).symm
      exact ⟨by kernel_rfl, fun j t ht => by
        rw [Tryd.params4] at ht
        have hm : t ∈ [22] := by have := Array.mem_of_getElem? ht; simpa using this
        have hall : ([22].all fun u => !Tryd.prog.wantsStandIn u) = true := by kernel_rfl
        exact (show Tryd.prog.wantsStandIn t = false by simpa using List.all_eq_true.1 hall t hm)⟩)
    (by kernel_rfl)
#print axioms proved
end Go.Proofs.YtigmgeaimcglhaaDoor.snapTells

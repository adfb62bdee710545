
/-
  CONTRACT of laneref2.Stamp where the ops are right (printed by wip/mkrstamp.py).
-/
import Derived.Test.YtoboecppilmnnaaDoorRPlay
import Derived.Test.YtoboecppilmnnaaDoorStampRun
import Derived.Deep.DeepCutAuto
import Derived.Deep.CutBlock
namespace Go.Proofs.YtoboecppilmnnaaDoor
open Go.RowKit

def outC (vic : List Int) : List Value := (List.range 7).map fun t : Nat => .bool (decide ((t : Int) ∈ vic))
theorem outC_at (vic : List Int) {tx : Int} (h1 : 0 ≤ tx) (h2 : tx ≤ 6) : (outC vic)[tx.toNat]? = some (.bool (decide (tx ∈ vic))) := by
  unfold outC
  rw [List.getElem?_map, List.getElem?_range (by omega)]
  simp only [Option.map_some]
  rw [Int.toNat_of_nonneg h1]
theorem outC_set (vic : List Int) {tx : Int} (h1 : 0 ≤ tx) (h2 : tx ≤ 6) : (outC vic).set tx.toNat (.bool true) = outC (vic ++ [tx]) := by
  apply List.ext_getElem?
  intro i
  by_cases hi : tx.toNat = i
  · subst hi
    rw [outC_at _ h1 h2, List.getElem?_set_self (by simp [outC]; omega)]; simp
  · rw [List.getElem?_set_ne hi]
    unfold outC
    rw [List.getElem?_map, List.getElem?_map]
    rcases Nat.lt_or_ge i 7 with h | h
    · rw [List.getElem?_range h]
      have : ¬ (i : Int) = tx := by omega
      simp [this]
    · rw [List.getElem?_eq_none (by simpa using h)]; rfl

/-- What the reference keeps: who read, who wrote each item last, who is out; what is told, who is aborted. -/
structure RSt (w0 wx : World) (ms : List (Int × Int)) (told : List HOp) (vic : List Int) (v9 v10 : Value) (m9 m10 : Nat) : Prop where
  rd : Blk wx w0.heap.size 36 (cellsI (ms.map Prod.fst))
  wt : Blk wx (w0.heap.size + 1) 36 (cellsI (ms.map Prod.snd))
  out : Blk wx (w0.heap.size + 2) 87 (outC vic)
  told : wx.ownsRow (w0.heap.size + 3) 24 3 v9 m9 (cellsH told)
  vics : wx.ownsRow (w0.heap.size + 3) 3 1 v10 m10 (cellsI vic)
  bel : Below w0.heap.size w0 wx
section
variable {w0 wx : World} {ms : List (Int × Int)} {told : List HOp} {vic : List Int} {v9 v10 : Value} {m9 m10 : Nat}
theorem RSt.alloc (h : RSt w0 wx ms told vic v9 v10 m9 m10) (o : Obj) : RSt w0 (wx.alloc o) ms told vic v9 v10 m9 m10 :=
  ⟨h.rd.alloc _, h.wt.alloc _, h.out.alloc _, own_alloc h.told _, own_alloc h.vics _, h.bel.alloc h.bel.size _⟩
theorem own_drewN {w : World} {base : Nat} {e : TypeId} {size : Nat} {v : Value} {n : Nat} {xs : List Value} (h : w.ownsRow base e size v n xs) (k : Nat) : (w.drewN k).ownsRow base e size v n xs := h
theorem Blk.drewN {w : World} {g : Nat} {t : TypeId} {cs : List Value} (h : Blk w g t cs) (k : Nat) : Blk (w.drewN k) g t cs := h
theorem RSt.drewN (h : RSt w0 wx ms told vic v9 v10 m9 m10) (k : Nat) : RSt w0 (wx.drewN k) ms told vic v9 v10 m9 m10 :=
  ⟨h.rd, h.wt, h.out, h.told, h.vics, below_drewN h.bel k⟩
theorem RSt.putR (h : RSt w0 wx ms told vic v9 v10 m9 m10) {i : Nat} {r wv x : Int} (hi : ms[i]? = some (r, wv)) : RSt w0 (wx.setCell ⟨w0.heap.size, i, none⟩ (.int .i64 x)) (ms.set i (x, wv)) told vic v9 v10 m9 m10 :=
  ⟨by rw [fst_set]; exact h.rd.put _ _, by rw [snd_same (d' := (x, wv)) hi rfl]; exact h.wt.far (p := ⟨w0.heap.size, i, none⟩) (by simp) _, h.out.far (p := ⟨w0.heap.size, i, none⟩) (by simp) _,
    own_far h.told (p := ⟨w0.heap.size, i, none⟩) (by simp) _, own_far h.vics (p := ⟨w0.heap.size, i, none⟩) (by simp) _, h.bel.setCell (p := ⟨w0.heap.size, i, none⟩) (Nat.le_refl _) _⟩
theorem fst_same {ds : List (Int × Int)} {i : Nat} {d d' : Int × Int} (h : ds[i]? = some d) (h2 : d'.1 = d.1) : cellsI ((ds.set i d').map Prod.fst) = cellsI (ds.map Prod.fst) := by
  rw [fst_set]; exact set_same (by rw [cellsI, List.getElem?_map, List.getElem?_map, h, h2]; rfl)
theorem RSt.putW (h : RSt w0 wx ms told vic v9 v10 m9 m10) {i : Nat} {r wv x : Int} (hi : ms[i]? = some (r, wv)) : RSt w0 (wx.setCell ⟨w0.heap.size + 1, i, none⟩ (.int .i64 x)) (ms.set i (r, x)) told vic v9 v10 m9 m10 :=
  ⟨by rw [fst_same (d' := (r, x)) hi rfl]; exact h.rd.far (p := ⟨w0.heap.size + 1, i, none⟩) (by simp) _, by rw [snd_set]; exact h.wt.put _ _, h.out.far (p := ⟨w0.heap.size + 1, i, none⟩) (by simp) _,
    own_far h.told (p := ⟨w0.heap.size + 1, i, none⟩) (by simp) _, own_far h.vics (p := ⟨w0.heap.size + 1, i, none⟩) (by simp) _, h.bel.setCell (p := ⟨w0.heap.size + 1, i, none⟩) (by simp) _⟩
end
/-- What a step of the reference makes of it. -/
def stepF (lv : Bool) (ms : List (Int × Int)) (told : List HOp) (vic : List Int) (o : HOp) (rest : List HOp) (bad left : Bool) : List HOp × List Int :=
  if bad then stampGo lv ms (told ++ [⟨o.tx, 4, 0⟩]) (vic ++ [o.tx]) rest else if left then stampGo lv ms told vic rest else stampGo lv ms (told ++ [o]) vic rest
theorem step_eq {lv : Bool} {ms : List (Int × Int)} {told : List HOp} {vic : List Int} {o : HOp} {rest : List HOp} {r wv : Int} (hv : o.tx ∉ vic) (he : endsB o = false) (hm : ms[o.item.toNat]? = some (r, wv)) :
    stampGo lv ms told vic (o :: rest) = stepF lv (ms.set o.item.toNat (lookM r wv o lv).2) told vic o rest (decide ((lookM r wv o lv).1 = 2)) (decide ((lookM r wv o lv).1 = 1)) := by
  have hgd : ms.getD o.item.toNat (0, 0) = (r, wv) := by rw [List.getD_eq_getElem?_getD, hm]; rfl
  rw [stampGo, if_neg hv, if_neg (by simp [he]), hgd]
  simp only [stepF]
  have h3 : (lookM r wv o lv).1 = 0 ∨ (lookM r wv o lv).1 = 1 ∨ (lookM r wv o lv).1 = 2 := by
    unfold lookM; repeat' split
    all_goals simp
  rcases h3 with h3 | h3 | h3 <;> simp [h3]

set_option maxRecDepth 100000 in
set_option maxHeartbeats 8000000 in
theorem rstamp_any (A : Option Addr) (n cap : Nat) (h : List HOp) (lv : Bool) (w : World) (hr : Rd w w.heap.size 3 A n (cellsH h)) (hok : okH h) :
    Calls Tryd.prog 22 #[.slice A n cap, .bool lv] w fun e w' => ∃ v1 v2 m1 m2, e = .returned (.tuple #[v1, v2]) ∧ w'.ownsRow w.heap.size 24 3 v1 m1 (cellsH (stampF lv h).1) ∧ w'.ownsRow w.heap.size 3 1 v2 m2 (cellsI (stampF lv h).2) ∧ Below w.heap.size w w' := by
  have hm : n ≤ 40 := by rw [← hr.hlen]; exact okH_len hok
  have HR := Lib.hid (okH_right hok)
  have HL := Lib.hid hr.hlen
  clear hok
  have S0 : RSt w (((w.alloc (.cells (cellsI ((List.replicate 7 ((0 : Int), (0 : Int))).map Prod.fst)).toArray 36)).alloc (.cells (cellsI ((List.replicate 7 ((0 : Int), (0 : Int))).map Prod.snd)).toArray 36)).alloc (.cells (outC []).toArray 87)) (List.replicate 7 (0, 0)) [] [] (.slice none 0 0) (.slice none 0 0) 0 0 :=
    ⟨((Blk.new w _ _).alloc _).alloc _, by
      have := (Blk.new (w.alloc (.cells (cellsI ((List.replicate 7 ((0 : Int), (0 : Int))).map Prod.fst)).toArray 36)) 36 (cellsI ((List.replicate 7 ((0 : Int), (0 : Int))).map Prod.snd))).alloc (.cells (outC []).toArray 87)
      simpa using this, by
      have := Blk.new ((w.alloc (.cells (cellsI ((List.replicate 7 ((0 : Int), (0 : Int))).map Prod.fst)).toArray 36)).alloc (.cells (cellsI ((List.replicate 7 ((0 : Int), (0 : Int))).map Prod.snd)).toArray 36)) 87 (outC [])
      simpa using this, World.ownsRow_nil _ _ _ _, World.ownsRow_nil _ _ _ _, (((Below.refl _ _).alloc (Nat.le_refl _) _).alloc (by simp) _).alloc (by simp; omega) _⟩
  go_enter Tryd.func22, Tryd.ntmps22
  go_wp2
  go_loopw [9, 10, 11] (fun s9 s10 i wr => ∃ (k m9 m10 : Nat) (ms : List (Int × Int)) (told : List HOp) (vic : List Int), k ≤ n ∧ i = .int .i64 k ∧ ms.length = 7 ∧ RSt w wr ms told vic s9 s10 m9 m10 ∧ m9 ≤ k ∧ m10 ≤ k ∧ Hid (stampF lv h = stampGo lv ms told vic (h.drop k)))
    (fun _ _ i _ => n - (intOf i).toNat)
  case atStart => exact ⟨0, 0, 0, List.replicate 7 (0, 0), [], [], Nat.zero_le _, rfl, rfl, S0, Nat.zero_le _, Nat.zero_le _, rfl⟩
  case round =>
    clear S0
    obtain ⟨k, m9, m10, ms, told, vic, hk, rfl, hml, S, hm9, hm10, HE⟩ := hrel
    obtain ⟨A9, c9, rfl⟩ := own_slice S.told
    obtain ⟨A10, c10, rfl⟩ := own_slice S.vics
    by_cases hlt : k < n
    · obtain ⟨b, off, o, he, hb, ho, c0, c1, c2⟩ := (hr.below S.bel).op (k := k) (by omega)
      cases he
      have hro := HR.out o (List.mem_of_getElem? ho)
      obtain ⟨tx, what, item⟩ := o
      have HO : Hid (h.drop k = ⟨tx, what, item⟩ :: h.drop (k + 1)) := drop_at ho
      clear ho
      obtain ⟨t1, t2, w1, w2, ti, _⟩ := rightB_get hro
      simp only at t1 t2 w1 w2 ti
      have t3 : tx.toNat < 7 := by omega
      have hSa := S.alloc (.cells #[.int .i64 tx, .int .i64 what, .int .i64 item] 24)
      have hOa : Blk (wr.alloc (.cells #[.int .i64 tx, .int .i64 what, .int .i64 item] 24)) wr.heap.size 24 [.int .i64 tx, .int .i64 what, .int .i64 item] := Blk.new wr _ _
      have hob : w.heap.size + 3 ≤ wr.heap.size := S.out.lt
      obtain ⟨x0, x1, x2⟩ : _ ∧ _ ∧ _ := ⟨hOa.cellS (i := 0) (v := .int .i64 tx) rfl, hOa.cellS (i := 1) (v := .int .i64 what) rfl, hOa.cellS (i := 2) (v := .int .i64 item) rfl⟩
      have y0 := hSa.out.cellS (outC_at vic (tx := tx) (by omega) t2)
      by_cases hvt : tx ∈ vic
      · have HE2 : Hid (stampF lv h = stampGo lv ms told vic (h.drop (k + 1))) := Lib.hid (by rw [HE.out, HO.out]; simp [stampGo, hvt])
        rw [decide_eq_true hvt] at y0
        clear hvt S HE HO
        go_upto_region 9 with fail
        clear c0 c1 c2
        generalize wr.alloc (.cells #[.int .i64 tx, .int .i64 what, .int .i64 item] 24) = wa at *
        go_wp2
        go_roundw
        case rel => exact ⟨k + 1, m9, m10, ms, told, vic, by omega, by go_num, hml, hSa, by omega, by omega, HE2⟩
        case measure => simp [intOf]; omega
      · rw [decide_eq_false hvt] at y0
        have HVT := Lib.hid hvt
        clear hvt S
        go_upto_region 9 with fail
        clear c0 c1 c2
        generalize wr.alloc (.cells #[.int .i64 tx, .int .i64 what, .int .i64 item] 24) = wa at *
        generalize wr.heap.size = ob at *
        by_cases h3 : what < 3
        · obtain ⟨i1, i2⟩ := ti h3
          have i3 : item.toNat < 7 := by omega
          obtain ⟨⟨r, wv⟩, hmi⟩ : ∃ d, ms[item.toNat]? = some d := ⟨_, List.getElem?_eq_getElem (by omega)⟩
          have HMI := Lib.hid hmi
          have y1 := hSa.rd.cellS (i := item.toNat) (v := .int .i64 r) (by rw [cellsI, List.getElem?_map, List.getElem?_map, hmi]; rfl)
          have y2 := hSa.wt.cellS (i := item.toNat) (v := .int .i64 wv) (by rw [cellsI, List.getElem?_map, List.getElem?_map, hmi]; rfl)
          have z1 := hSa.rd.frozen item.toNat
          have z2 := hSa.wt.frozen item.toNat
          have HE3 : Hid (stampF lv h = stepF lv (ms.set item.toNat (lookM r wv ⟨tx, what, item⟩ lv).2) told vic ⟨tx, what, item⟩ (h.drop (k + 1)) (decide ((lookM r wv ⟨tx, what, item⟩ lv).1 = 2)) (decide ((lookM r wv ⟨tx, what, item⟩ lv).1 = 1))) := Lib.hid (by
            rw [HE.out, HO.out]; exact step_eq (o := ⟨tx, what, item⟩) HVT.out (by simp [endsB]; omega) hmi)
          clear hmi HE HO hro ti
          by_cases hw1 : what = 1
          · subst hw1
            go_upto_if 32 with fail
            go_cut [13] (fun s13 wx => ∃ (bad : Bool) (ms' : List (Int × Int)), s13 = .bool bad ∧ ms'.length = 7 ∧ RSt w wx ms' told vic (.slice A9 m9 c9) (.slice A10 m10 c10) m9 m10 ∧ Blk wx ob 24 [.int .i64 tx, .int .i64 1, .int .i64 item] ∧ Hid (stampF lv h = stepF lv ms' told vic ⟨tx, 1, item⟩ (h.drop (k + 1)) bad false))
            case first =>
              by_cases hv : wv > tx
              · have HF : Hid (stampF lv h = stepF lv ms told vic ⟨tx, 1, item⟩ (h.drop (k + 1)) true false) := Lib.hid (by rw [HE3.out]; simp [lookM, hv, set_same HMI.out])
                have hv3 : decide (wv > tx) = true := decide_eq_true hv
                clear HE3
                go_wp2
                go_quiet (fail)
                go_wp2
                go_quiet (fail)
                go_wp2
                go_meet
                case rel => exact ⟨true, ms, rfl, hml, by repeat' (first | exact hSa | apply RSt.drewN), by repeat' (first | exact hOa | apply Blk.drewN), HF⟩
              · have hv3 : decide (wv > tx) = false := decide_eq_false hv
                by_cases ht : tx > r
                · have HF : Hid (stampF lv h = stepF lv (ms.set item.toNat (tx, wv)) told vic ⟨tx, 1, item⟩ (h.drop (k + 1)) false false) := Lib.hid (by rw [HE3.out]; simp [lookM, hv, show max r tx = tx by omega])
                  have ht3 : decide (tx > r) = true := decide_eq_true ht
                  have hpo : ob ≠ w.heap.size := by omega
                  clear HE3
                  go_wp2
                  go_quiet (fail)
                  go_wp2
                  go_quiet (fail)
                  go_wp2
                  go_meet
                  case rel => exact ⟨false, ms.set item.toNat (tx, wv), rfl, by simp [hml], by repeat' (first | exact (hSa.drewN _).putR HMI.out | apply RSt.drewN), by repeat' (first | exact (hOa.drewN _).far (p := ⟨w.heap.size, item.toNat, none⟩) hpo _ | apply Blk.drewN), HF⟩
                · have HF : Hid (stampF lv h = stepF lv ms told vic ⟨tx, 1, item⟩ (h.drop (k + 1)) false false) := Lib.hid (by rw [HE3.out]; simp [lookM, hv, show max r tx = r by omega, set_same HMI.out])
                  have ht3 : decide (tx > r) = false := decide_eq_false ht
                  clear HE3
                  go_wp2
                  go_quiet (fail)
                  go_wp2
                  go_quiet (fail)
                  go_wp2
                  go_meet
                  case rel => exact ⟨false, ms, rfl, hml, by repeat' (first | exact hSa | apply RSt.drewN), by repeat' (first | exact hOa | apply Blk.drewN), HF⟩
            case rest =>
              clear hSa hOa x0 x1 x2 y0 y1 y2 z1 z2 HE3 HMI
              obtain ⟨bad, ms', rfl, hml', hSc, hOc, HF⟩ := hcut
              have hwhat : ((1 : Int) == 2) = false := rfl
              obtain ⟨x0, x1, x2⟩ : _ ∧ _ ∧ _ := ⟨hOc.cellS (i := 0) (v := .int .i64 tx) rfl, hOc.cellS (i := 1) (v := .int .i64 1) rfl, hOc.cellS (i := 2) (v := .int .i64 item) rfl⟩
              cases bad
              · have HF2 : Hid (stampF lv h = stampGo lv ms' (told ++ [⟨tx, 1, item⟩]) vic (h.drop (k + 1))) := HF
                have h9 : ∀ u ∈ cellsH [⟨tx, 1, item⟩], u.oneCell' = true := oneH _
                have hzc := hSc.out.lt
                have hSd := hSc.alloc (.cells (cellsH [⟨tx, 1, item⟩]).toArray 24)
                go_wp2_with (at_builtin; (refine wpList_app rfl (.tmp 113) (.tmp 115) _ rfl (w.heap.size + 3) slt_op (n := m9) (xs := cellsH told) (m := 1) (news := cellsH [⟨tx, 1, item⟩]) rfl hSd.told rfl (rd_new' _ _ (cellsH [⟨tx, 1, item⟩]) (by simp) rfl) h9 (by omega) (by simp; omega) ?_; intro v5 w5 hown5 hg5 hb5 hat5 hne5))
                have hvics5 := own_other hSd.vics hSd.told (by decide) hg5
                rw [← cellsH_append] at hown5
                go_roundw
                case rel => exact ⟨k + 1, m9 + 1, m10, ms', told ++ [⟨tx, 1, item⟩], vic, by omega, by go_num, hml', ⟨hSd.rd.below hb5 (by omega), hSd.wt.below hb5 (by omega), hSd.out.below hb5 (by omega), hown5, hvics5, hSd.bel.trans (hb5.mono (by omega))⟩, by omega, by omega, HF2⟩
                case measure => simp [intOf]; omega
              · have HF2 : Hid (stampF lv h = stampGo lv ms' (told ++ [⟨tx, 4, 0⟩]) (vic ++ [tx]) (h.drop (k + 1))) := HF
                have h9 : ∀ u ∈ cellsH [⟨tx, 4, 0⟩], u.oneCell' = true := oneH _
                have hzc := hSc.out.lt
                have y0 := hSc.out.cellS (outC_at vic (tx := tx) (by omega) t2)
                have z0 := hSc.out.frozen tx.toNat
                have hSr := hSc.rd.far (p := ⟨w.heap.size + 2, tx.toNat, none⟩) (by simp) (.bool true)
                have hSw := hSc.wt.far (p := ⟨w.heap.size + 2, tx.toNat, none⟩) (by simp) (.bool true)
                have hSo := hSc.out.put tx.toNat (.bool true)
                rw [outC_set vic (by omega) t2] at hSo
                have hSt := own_far hSc.told (p := ⟨w.heap.size + 2, tx.toNat, none⟩) (by simp) (.bool true)
                have hSv := own_far hSc.vics (p := ⟨w.heap.size + 2, tx.toNat, none⟩) (by simp) (.bool true)
                have hSb := hSc.bel.setCell (p := ⟨w.heap.size + 2, tx.toNat, none⟩) (by simp) (.bool true)
                have hOd := hOc.far (p := ⟨w.heap.size + 2, tx.toNat, none⟩) (by simp; omega) (.bool true)
                go_wp2_with (first
                  | (at_builtin; (refine wpList_app rfl (.tmp 100) (.tmp 103) _ rfl (w.heap.size + 3) slt_int (n := m10) (xs := cellsI vic) (m := 1) (news := [.int .i64 tx]) rfl (own_alloc hSv _) rfl (rd_new' _ _ [.int .i64 tx] (by simp) rfl) (one1 (x := .int .i64 tx) rfl) (by omega) (by simp; omega) ?_; intro v5 w5 hown5 hg5 hb5 hat5 hne5; have hO5 := (hOd.alloc (.cells #[.int .i64 tx] 3)).other (own_alloc hSv _) (by decide) hg5; have ht5 := own_other (own_alloc hSt (.cells #[.int .i64 tx] 3)) (own_alloc hSv _) (by decide) hg5; have e0 := hO5.cellS (i := 0) (v := .int .i64 tx) rfl; have hr5 := (hSr.alloc (.cells #[.int .i64 tx] 3)).below hb5 (by omega); have hw5 := (hSw.alloc (.cells #[.int .i64 tx] 3)).below hb5 (by omega); have ho5 := (hSo.alloc (.cells #[.int .i64 tx] 3)).below hb5 (by omega); have hz5 := ho5.lt; have hbl5 := (hSb.alloc hSb.size (.cells #[.int .i64 tx] 3)).trans (hb5.mono (by omega))))
                  | (at_builtin; (refine wpList_app rfl (.tmp 105) (.tmp 109) _ rfl (w.heap.size + 3) slt_op (n := m9) (xs := cellsH told) (m := 1) (news := cellsH [⟨tx, 4, 0⟩]) rfl (own_alloc ht5 _) rfl (rd_new' _ _ (cellsH [⟨tx, 4, 0⟩]) (by simp) rfl) h9 (by omega) (by simp; omega) ?_; intro v6 w6 hown6 hg6 hb6 hat6 hne6)))
                have hv6 := own_other (own_alloc hown5 (.cells (cellsH [⟨tx, 4, 0⟩]).toArray 24)) (own_alloc ht5 _) (by decide) hg6
                rw [← cellsH_append] at hown6
                go_roundw
                case rel => exact ⟨k + 1, m9 + 1, m10 + 1, ms', told ++ [⟨tx, 4, 0⟩], vic ++ [tx], by omega, by go_num, hml', ⟨(hr5.alloc _).below hb6 (by omega), (hw5.alloc _).below hb6 (by omega), (ho5.alloc _).below hb6 (by omega), hown6, by rw [cellsI, List.map_append]; exact hv6, (hbl5.alloc hbl5.size _).trans (hb6.mono (by omega))⟩, by omega, by omega, HF2⟩
                case measure => simp [intOf]; omega
          · have hw2 : what = 2 := by omega
            subst hw2
            clear hw1
            go_upto_if 58 with fail
            go_cut [13, 14] (fun s13 s14 wx => ∃ (bad left : Bool) (ms' : List (Int × Int)), s13 = .bool bad ∧ s14 = .bool left ∧ ms'.length = 7 ∧ RSt w wx ms' told vic (.slice A9 m9 c9) (.slice A10 m10 c10) m9 m10 ∧ Blk wx ob 24 [.int .i64 tx, .int .i64 2, .int .i64 item] ∧ Hid (stampF lv h = stepF lv ms' told vic ⟨tx, 2, item⟩ (h.drop (k + 1)) bad left))
            case first =>
              by_cases hrt : r > tx
              · have HF : Hid (stampF lv h = stepF lv ms told vic ⟨tx, 2, item⟩ (h.drop (k + 1)) true false) := Lib.hid (by rw [HE3.out]; simp [lookM, hrt, set_same HMI.out])
                have hr3 : decide (r > tx) = true := decide_eq_true hrt
                clear HE3
                by_cases hv : wv > tx
                · have hv3 : decide (wv > tx) = true := decide_eq_true hv
                  go_wp2
                  go_quiet (fail)
                  go_wp2
                  go_quiet (fail)
                  go_wp2
                  go_meet
                  case rel => exact ⟨true, false, ms, rfl, rfl, hml, by repeat' (first | exact hSa | apply RSt.drewN), by repeat' (first | exact hOa | apply Blk.drewN), HF⟩
                · have hv3 : decide (wv > tx) = false := decide_eq_false hv
                  go_wp2
                  go_quiet (fail)
                  go_wp2
                  go_quiet (fail)
                  go_wp2
                  go_meet
                  case rel => exact ⟨true, false, ms, rfl, rfl, hml, by repeat' (first | exact hSa | apply RSt.drewN), by repeat' (first | exact hOa | apply Blk.drewN), HF⟩
              · have hr3 : decide (r > tx) = false := decide_eq_false hrt
                by_cases hv : wv > tx
                · have hv3 : decide (wv > tx) = true := decide_eq_true hv
                  cases lv
                  · have HF : Hid (stampF false h = stepF false ms told vic ⟨tx, 2, item⟩ (h.drop (k + 1)) true false) := Lib.hid (by rw [HE3.out]; simp [lookM, hrt, hv, set_same HMI.out])
                    clear HE3
                    go_wp2
                    go_quiet (fail)
                    go_wp2
                    go_quiet (fail)
                    go_wp2
                    go_meet
                    case rel => exact ⟨true, false, ms, rfl, rfl, hml, by repeat' (first | exact hSa | apply RSt.drewN), by repeat' (first | exact hOa | apply Blk.drewN), HF⟩
                  · have HF : Hid (stampF true h = stepF true ms told vic ⟨tx, 2, item⟩ (h.drop (k + 1)) false true) := Lib.hid (by rw [HE3.out]; simp [lookM, hrt, hv, set_same HMI.out])
                    clear HE3
                    go_wp2
                    go_quiet (fail)
                    go_wp2
                    go_quiet (fail)
                    go_wp2
                    go_meet
                    case rel => exact ⟨false, true, ms, rfl, rfl, hml, by repeat' (first | exact hSa | apply RSt.drewN), by repeat' (first | exact hOa | apply Blk.drewN), HF⟩
                · have hv3 : decide (wv > tx) = false := decide_eq_false hv
                  have HF : Hid (stampF lv h = stepF lv (ms.set item.toNat (r, tx)) told vic ⟨tx, 2, item⟩ (h.drop (k + 1)) false false) := Lib.hid (by rw [HE3.out]; simp [lookM, hrt, hv])
                  have hpo : ob ≠ w.heap.size + 1 := by omega
                  clear HE3
                  go_wp2
                  go_quiet (fail)
                  go_wp2
                  go_quiet (fail)
                  go_wp2
                  go_meet
                  case rel => exact ⟨false, false, ms.set item.toNat (r, tx), rfl, rfl, by simp [hml], by repeat' (first | exact (hSa.drewN _).putW HMI.out | apply RSt.drewN), by repeat' (first | exact (hOa.drewN _).far (p := ⟨w.heap.size + 1, item.toNat, none⟩) hpo _ | apply Blk.drewN), HF⟩
            case rest =>
              clear hSa hOa x0 x1 x2 y0 y1 y2 z1 z2 HE3 HMI
              obtain ⟨bad, left, ms', rfl, rfl, hml', hSc, hOc, HF⟩ := hcut
              obtain ⟨x0, x1, x2⟩ : _ ∧ _ ∧ _ := ⟨hOc.cellS (i := 0) (v := .int .i64 tx) rfl, hOc.cellS (i := 1) (v := .int .i64 2) rfl, hOc.cellS (i := 2) (v := .int .i64 item) rfl⟩
              cases bad
              · cases left
                · have HF2 : Hid (stampF lv h = stampGo lv ms' (told ++ [⟨tx, 2, item⟩]) vic (h.drop (k + 1))) := HF
                  have h9 : ∀ u ∈ cellsH [⟨tx, 2, item⟩], u.oneCell' = true := oneH _
                  have hzc := hSc.out.lt
                  have hSd := hSc.alloc (.cells (cellsH [⟨tx, 2, item⟩]).toArray 24)
                  go_wp2_with (at_builtin; (refine wpList_app rfl (.tmp 113) (.tmp 115) _ rfl (w.heap.size + 3) slt_op (n := m9) (xs := cellsH told) (m := 1) (news := cellsH [⟨tx, 2, item⟩]) rfl hSd.told rfl (rd_new' _ _ (cellsH [⟨tx, 2, item⟩]) (by simp) rfl) h9 (by omega) (by simp; omega) ?_; intro v5 w5 hown5 hg5 hb5 hat5 hne5))
                  have hvics5 := own_other hSd.vics hSd.told (by decide) hg5
                  rw [← cellsH_append] at hown5
                  go_roundw
                  case rel => exact ⟨k + 1, m9 + 1, m10, ms', told ++ [⟨tx, 2, item⟩], vic, by omega, by go_num, hml', ⟨hSd.rd.below hb5 (by omega), hSd.wt.below hb5 (by omega), hSd.out.below hb5 (by omega), hown5, hvics5, hSd.bel.trans (hb5.mono (by omega))⟩, by omega, by omega, HF2⟩
                  case measure => simp [intOf]; omega
                · have HF2 : Hid (stampF lv h = stampGo lv ms' told vic (h.drop (k + 1))) := HF
                  go_wp2
                  go_roundw
                  case rel => exact ⟨k + 1, m9, m10, ms', told, vic, by omega, by go_num, hml', hSc, by omega, by omega, HF2⟩
                  case measure => simp [intOf]; omega
              · have HF2 : Hid (stampF lv h = stampGo lv ms' (told ++ [⟨tx, 4, 0⟩]) (vic ++ [tx]) (h.drop (k + 1))) := HF
                have h9 : ∀ u ∈ cellsH [⟨tx, 4, 0⟩], u.oneCell' = true := oneH _
                have hzc := hSc.out.lt
                have y0 := hSc.out.cellS (outC_at vic (tx := tx) (by omega) t2)
                have z0 := hSc.out.frozen tx.toNat
                have hSr := hSc.rd.far (p := ⟨w.heap.size + 2, tx.toNat, none⟩) (by simp) (.bool true)
                have hSw := hSc.wt.far (p := ⟨w.heap.size + 2, tx.toNat, none⟩) (by simp) (.bool true)
                have hSo := hSc.out.put tx.toNat (.bool true)
                rw [outC_set vic (by omega) t2] at hSo
                have hSt := own_far hSc.told (p := ⟨w.heap.size + 2, tx.toNat, none⟩) (by simp) (.bool true)
                have hSv := own_far hSc.vics (p := ⟨w.heap.size + 2, tx.toNat, none⟩) (by simp) (.bool true)
                have hSb := hSc.bel.setCell (p := ⟨w.heap.size + 2, tx.toNat, none⟩) (by simp) (.bool true)
                have hOd := hOc.far (p := ⟨w.heap.size + 2, tx.toNat, none⟩) (by simp; omega) (.bool true)
                go_wp2_with (first
                  | (at_builtin; (refine wpList_app rfl (.tmp 100) (.tmp 103) _ rfl (w.heap.size + 3) slt_int (n := m10) (xs := cellsI vic) (m := 1) (news := [.int .i64 tx]) rfl (own_alloc hSv _) rfl (rd_new' _ _ [.int .i64 tx] (by simp) rfl) (one1 (x := .int .i64 tx) rfl) (by omega) (by simp; omega) ?_; intro v5 w5 hown5 hg5 hb5 hat5 hne5; have hO5 := (hOd.alloc (.cells #[.int .i64 tx] 3)).other (own_alloc hSv _) (by decide) hg5; have ht5 := own_other (own_alloc hSt (.cells #[.int .i64 tx] 3)) (own_alloc hSv _) (by decide) hg5; have e0 := hO5.cellS (i := 0) (v := .int .i64 tx) rfl; have hr5 := (hSr.alloc (.cells #[.int .i64 tx] 3)).below hb5 (by omega); have hw5 := (hSw.alloc (.cells #[.int .i64 tx] 3)).below hb5 (by omega); have ho5 := (hSo.alloc (.cells #[.int .i64 tx] 3)).below hb5 (by omega); have hz5 := ho5.lt; have hbl5 := (hSb.alloc hSb.size (.cells #[.int .i64 tx] 3)).trans (hb5.mono (by omega))))
                  | (at_builtin; (refine wpList_app rfl (.tmp 105) (.tmp 109) _ rfl (w.heap.size + 3) slt_op (n := m9) (xs := cellsH told) (m := 1) (news := cellsH [⟨tx, 4, 0⟩]) rfl (own_alloc ht5 _) rfl (rd_new' _ _ (cellsH [⟨tx, 4, 0⟩]) (by simp) rfl) h9 (by omega) (by simp; omega) ?_; intro v6 w6 hown6 hg6 hb6 hat6 hne6)))
                have hv6 := own_other (own_alloc hown5 (.cells (cellsH [⟨tx, 4, 0⟩]).toArray 24)) (own_alloc ht5 _) (by decide) hg6
                rw [← cellsH_append] at hown6
                go_roundw
                case rel => exact ⟨k + 1, m9 + 1, m10 + 1, ms', told ++ [⟨tx, 4, 0⟩], vic ++ [tx], by omega, by go_num, hml', ⟨(hr5.alloc _).below hb6 (by omega), (hw5.alloc _).below hb6 (by omega), (ho5.alloc _).below hb6 (by omega), hown6, by rw [cellsI, List.map_append]; exact hv6, (hbl5.alloc hbl5.size _).trans (hb6.mono (by omega))⟩, by omega, by omega, HF2⟩
                case measure => simp [intOf]; omega
        · have hw1b : (what == 1) = false := by simp; omega
          have hw2b : (what == 2) = false := by simp; omega
          have HF : Hid (stampF lv h = stepF lv ms told vic ⟨tx, what, item⟩ (h.drop (k + 1)) false false) := Lib.hid (by rw [HE.out, HO.out]; simp [stampGo, HVT.out, endsB, stepF]; omega)
          have hSc := hSa
          have hOc := hOa
          have hml' := hml
          obtain ⟨ms', hms⟩ : ∃ ms', ms' = ms := ⟨_, rfl⟩
          rw [← hms] at hSc hml' HF
          clear hSa hOa HE HO hro ti hms
          have HF2 : Hid (stampF lv h = stampGo lv ms' (told ++ [⟨tx, what, item⟩]) vic (h.drop (k + 1))) := HF
          have h9 : ∀ u ∈ cellsH [⟨tx, what, item⟩], u.oneCell' = true := oneH _
          have hzc := hSc.out.lt
          have hSd := hSc.alloc (.cells (cellsH [⟨tx, what, item⟩]).toArray 24)
          go_wp2_with (at_builtin; (refine wpList_app rfl (.tmp 113) (.tmp 115) _ rfl (w.heap.size + 3) slt_op (n := m9) (xs := cellsH told) (m := 1) (news := cellsH [⟨tx, what, item⟩]) rfl hSd.told rfl (rd_new' _ _ (cellsH [⟨tx, what, item⟩]) (by simp) rfl) h9 (by omega) (by simp; omega) ?_; intro v5 w5 hown5 hg5 hb5 hat5 hne5))
          have hvics5 := own_other hSd.vics hSd.told (by decide) hg5
          rw [← cellsH_append] at hown5
          go_roundw
          case rel => exact ⟨k + 1, m9 + 1, m10, ms', told ++ [⟨tx, what, item⟩], vic, by omega, by go_num, hml', ⟨hSd.rd.below hb5 (by omega), hSd.wt.below hb5 (by omega), hSd.out.below hb5 (by omega), hown5, hvics5, hSd.bel.trans (hb5.mono (by omega))⟩, by omega, by omega, HF2⟩
          case measure => simp [intOf]; omega
    · have HF : Hid (stampF lv h = (told, vic)) := Lib.hid (by rw [HE.out, drop_end (by rw [HL.out]; omega)]; rfl)
      have HO1 := Lib.hid (own_mono S.told (Nat.le_add_right _ 3))
      have HO2 := Lib.hid (own_mono S.vics (Nat.le_add_right _ 3))
      have hbw := S.bel
      clear S
      go_wp2
      go_ret2
      exact ⟨_, _, m9, m10, rfl, by rw [HF.out]; exact HO1.out, by rw [HF.out]; exact HO2.out, hbw⟩
end Go.Proofs.YtoboecppilmnnaaDoor

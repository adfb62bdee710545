
/-
  CONTRACT of tree.grip.
-/
import Derived.Test.YtfmdeahblaikoaaDoorTreeH

namespace Go.Proofs.YtfmdeahblaikoaaDoor
open Go.RowKit

def GripPost (lo g b : Nat) (up : List Int) (s : TSt) (q : GOp) (w : World) (e : Ending) (w' : World) : Prop :=
  ∃ mm' vs', e = .returned (errV (gripF up s q).1) ∧ TreeH lo w' g b (gripF up s q).2 mm' vs' ∧ Below lo w w'
theorem hold_look {lo g b : Nat} {s : TSt} {mm : List (Int × Value)} {vs : Int → Value} {w0 : World} (h : TreeH lo w0 g b s mm vs) (hz : ∀ w, (zeroValue 3).run Tryd.prog w = .ok (.int .i64 0) w) (i : Int) (w : World) (hm : MapI w b mm) :
    (Instr.lookup 117 (.map (some b)) (.int .i64 i) true).run Tryd.prog w = .ok (.tuple #[.int .i64 (s.hold i), .bool (decide (s.hold i ≠ 0))]) w ∧ (Instr.lookup 117 (.map (some b)) (.int .i64 i) false).run Tryd.prog w = .ok (.int .i64 (s.hold i)) w := by
  have h1 := run_lookupI (P := Tryd.prog) Tryd.underlying117 Tryd.underlying3 hm i (hz w) true
  have h2 := run_lookupI (P := Tryd.prog) Tryd.underlying117 Tryd.underlying3 hm i (hz w) false
  rw [if_pos rfl, h.hold.2 i] at h1
  rw [if_neg (by simp), h.hold.2 i] at h2
  by_cases e : s.hold i = 0
  · rw [if_pos e] at h1 h2
    rw [e]
    exact ⟨by rw [h1]; simp, by rw [h2]; rfl⟩
  · rw [if_neg e] at h1 h2
    exact ⟨by rw [h1]; simp [e], by rw [h2]; rfl⟩
theorem gzero (w : World) : (zeroValue 3).run Tryd.prog w = .ok (.int .i64 0) w := by kernel_rfl
theorem holdM_put {mm : List (Int × Value)} {hold : Int → Int} (h : HoldM mm hold) {i t : Int} (ht : t ≠ 0) : HoldM (putI mm i (.int .i64 t)) (updF hold i t) := by
  refine ⟨putI_nodup h.1 _ _, fun j => ?_⟩
  rw [getI_put]
  by_cases e : i = j
  · rw [if_pos e, ← e, updF_self, if_neg ht]
  · rw [if_neg e, updF_ne _ _ (fun e2 => e e2.symm)]; exact h.2 j
theorem holdM_del {mm : List (Int × Value)} {hold : Int → Int} (h : HoldM mm hold) (i : Int) : HoldM (delI mm i) (updF hold i 0) := by
  refine ⟨delI_nodup h.1 _, fun j => ?_⟩
  rw [getI_del j h.1]
  by_cases e : i = j
  · rw [if_pos e, ← e, updF_self, if_pos rfl]
  · rw [if_neg e, updF_ne _ _ (fun e2 => e e2.symm)]; exact h.2 j

theorem seven_get (vs : Int → Value) {m : Value} {t : Nat} (ht : t < 7) : (m :: sevenT.map vs)[1 + t]? = some (vs t) := by
  rw [Nat.add_comm, List.getElem?_cons_succ, List.getElem?_map]
  have := sevenT_at (t := (t : Int)) (by omega) (by omega)
  rw [Int.toNat_natCast] at this
  rw [this]; rfl
theorem step_appT {P : Program} {w : World} {ops : Array Oper} {o : Oper} {a : Act} {K : Act → World → Prop} {Q : Exit → Act → World → Prop} {E : Prop} (hgd : o.guard = none) (s x : Operand) (t : TypeId)
    (ho : o.op = .call { callee := .builtin .append, args := #[s, x], argTypes := #[t, t] })
    {e : TypeId} {size bytes : Nat} (base : Nat) (T : SlT P t e size bytes) {v : Value} {n : Nat} {xs : List Value} (hs : a.eval s = v) (hown : w.ownsRow base e size v n xs)
    {B : Nat} {A : Option Addr} {m c : Nat} {news : List Value} (hx : a.eval x = .slice A m c) (hr : Rd w B size A m news) (h1 : ∀ u ∈ news, u.oneCell' = true) (hbytes : (n + m) * bytes ≤ 140737488355328) (hbase : base ≤ w.heap.size)
    (h : ∀ v' w', w'.ownsRow base e size v' (n + m) (xs ++ news) → w.grownBy w' v.ownBlock → Below base w w' → (v'.ownBlock = v.ownBlock ∨ v'.ownBlock = some w.heap.size) → K (a.put o.dst v') w') :
    if Region.wanted o (yielded ops a.tmps) = true then Oper.wp P o a w K Q else E := by
  rw [if_pos (by simp [Region.wanted, hgd])]
  exact wp_app s x t ho base T hs hown hx hr h1 hbytes hbase fun v' w' h2 h3 h4 h5 _ => h v' w' h2 h3 h4 h5
set_option maxRecDepth 100000 in
set_option maxHeartbeats 8000000 in
theorem grip_any (lo g b : Nat) (s : TSt) (mm : List (Int × Value)) (vs : Int → Value) (Au : Option Addr) (nu cu : Nat) (up : List Int) (q : GOp) (w : World) (H : TreeH lo w g b s mm vs) (hu : Rd w lo 1 Au nu (cellsI up)) (hlo : lo ≤ w.heap.size) (h1 : 1 ≤ q.tx) (h6 : q.tx ≤ 6) (i1 : 1 ≤ q.item) (i2 : q.item ≤ nu) (hn : nu ≤ 6) (hlen : (s.had q.tx).length ≤ 40) :
    Calls Tryd.prog 61 #[.pointer (some ⟨g, 0, none⟩), .slice Au nu cu, gVal q] w (GripPost lo g b up s q w) := by
  obtain ⟨tx, item, lock⟩ := q
  simp only at h1 h6 i1 i2 hlen
  have hb0 : Below w.heap.size w (w.alloc (.cells #[.int .i64 tx, .int .i64 item, .bool lock] 115)) := (Below.refl _ _).alloc (Nat.le_refl _) _
  have hB0 := Blk.new w 115 [.int .i64 tx, .int .i64 item, .bool lock]
  have hH0 := H.below hb0
  have hgw : g < w.heap.size := H.blk.lt
  have hlkg := fun (i : Int) (w' : World) (hm : MapI w' b mm) => hold_look H gzero i w' hm
  have hlk := hlkg item
  have hu0 := hu.alloc hlo (.cells #[.int .i64 tx, .int .i64 item, .bool lock] 115)
  unfold gVal
  simp only
  generalize hw1 : w.alloc (.cells #[.int .i64 tx, .int .i64 item, .bool lock] 115) = w1 at *
  have HW := Lib.hid hw1
  clear hw1 hu
  obtain ⟨h0, hh0⟩ : ∃ h0 : Int, s.hold item = h0 := ⟨_, rfl⟩
  rw [hh0] at hlk
  have HH := Lib.hid hh0
  have hgl := hH0.blk.lt
  have hbl := hH0.map.lt
  have hB1l := hB0.lt
  have k0 := hH0.blk.cellS (i := 0) (v := .map (some b)) rfl
  have m0 := hB0.cellS (i := 0) (v := .int .i64 tx) rfl
  have m1 := hB0.cellS (i := 1) (v := .int .i64 item) rfl
  have m2 := hB0.cellS (i := 2) (v := .bool lock) rfl
  have l1 := (hlk w1 hH0.map).1
  have l1d := (hlk w1.drew hH0.map.drew).1
  have hbw : Below lo w w1 := hb0.mono hlo
  have HH0 := hide hH0
  have HLK := hide hlkg
  have HB0 := hide hB0
  have HU := hide hu0
  have HLO := Lib.hid (show lo ≤ w1.heap.size from Nat.le_trans hlo hb0.size)
  clear hh0 hlk hlkg H hB0 hH0 hb0 hu0 hlo
  cases lock
  · by_cases ht : h0 = tx
    · have hne : ¬ h0 = 0 := by omega
      rw [decide_eq_true hne] at l1 l1d
      have HG : Hid (gripF up s ⟨tx, item, false⟩ = (0, { s with hold := updF s.hold item 0 })) := Lib.hid (by unfold gripF; rw [if_neg (by simp), if_neg (by simp only [HH.out]; omega)])
      have tn : (h0 != tx) = false := by simp [ht]
      clear ht hne
      go_enter Tryd.func61, Tryd.ntmps61
      go_wp2
      rw [HW.out]
      go_region_held3 (fun w' => w'.cell? ⟨g, 0, none⟩ = some (.map (some b)) ∧ w'.cell? ⟨w.heap.size, 1, none⟩ = some (.int .i64 item) ∧ (Instr.lookup 117 (.map (some b)) (.int .i64 item) true).run Tryd.prog w' = .ok (.tuple #[.int .i64 h0, .bool true]) w') (first | exact ⟨k0, m1, l1⟩ | exact ⟨k0, m1, l1d⟩ | go_keep) (fail)
      go_wp2
      obtain ⟨w2, hw2⟩ : ∃ w2 : World, w1.drew = w2 := ⟨_, rfl⟩
      rw [hw2]
      have k0d : ({ w2 with drawn := w2.drawn + 1 } : World).cell? ⟨g, 0, none⟩ = some (.map (some b)) := by rw [← hw2]; exact k0
      have m1d : ({ w2 with drawn := w2.drawn + 1 } : World).cell? ⟨w.heap.size, 1, none⟩ = some (.int .i64 item) := by rw [← hw2]; exact m1
      have k0e : w2.cell? ⟨g, 0, none⟩ = some (.map (some b)) := by rw [← hw2]; exact k0
      have m1e : w2.cell? ⟨w.heap.size, 1, none⟩ = some (.int .i64 item) := by rw [← hw2]; exact m1
      have HW2 := Lib.hid hw2
      clear k0 m1 l1 l1d m0 m2 hw2
      go_still_tail 6, (by kernel_rfl)
      (with_reducible show wpList _ _ _ _ _ _)
      rw [← HW2.out]
      have hmd := (unhide HH0).map.drew.drew
      refine wpList_deleteI rfl (.tmp 35) (.tmp 37) _ rfl Tryd.underlying117 Tryd.underlying3 hmd (k := item) (by rfl) (by rfl) ?_
      intro w3 hm3 hg3
      have hH3 := ((unhide HH0).below ((Below.refl _ _).drew.drew)).mapped hg3 hm3 (holdM_del (unhide HH0).hold item)
      have hb3 : Below lo w w3 := (hbw.drew.drew).grown hg3 HLO.out (fun k hk => by cases hk; exact hH3.bl)
      go_wp2
      go_ret
      exact ⟨_, _, by rw [HG.out]; rfl, by rw [HG.out]; exact hH3, hb3⟩
    · have HG : Hid (gripF up s ⟨tx, item, false⟩ = (5, s)) := Lib.hid (by unfold gripF; rw [if_neg (by simp), if_pos (by simp only [HH.out]; exact ht)])
      by_cases hz : h0 = 0
      · rw [decide_eq_false (show ¬ h0 ≠ 0 from fun e => e hz)] at l1 l1d
        go_enter Tryd.func61, Tryd.ntmps61
        go_wp2
        rw [HW.out]
        go_region_held3 (fun w' => w'.cell? ⟨g, 0, none⟩ = some (.map (some b)) ∧ w'.cell? ⟨w.heap.size, 1, none⟩ = some (.int .i64 item) ∧ (Instr.lookup 117 (.map (some b)) (.int .i64 item) true).run Tryd.prog w' = .ok (.tuple #[.int .i64 h0, .bool false]) w') (first | exact ⟨k0, m1, l1⟩ | exact ⟨k0, m1, l1d⟩ | go_keep) (fail)
        go_wp2
        go_ret
        exact ⟨_, _, by rw [HG.out]; rfl, by rw [HG.out]; exact (unhide HH0).below ((Below.refl _ _).drew), hbw.drew⟩
      · rw [decide_eq_true hz] at l1 l1d
        have tn : (h0 != tx) = true := by simp [ht]
        clear ht hz
        go_enter Tryd.func61, Tryd.ntmps61
        go_wp2
        rw [HW.out]
        go_region_held3 (fun w' => w'.cell? ⟨g, 0, none⟩ = some (.map (some b)) ∧ w'.cell? ⟨w.heap.size, 1, none⟩ = some (.int .i64 item) ∧ (Instr.lookup 117 (.map (some b)) (.int .i64 item) true).run Tryd.prog w' = .ok (.tuple #[.int .i64 h0, .bool true]) w') (first | exact ⟨k0, m1, l1⟩ | exact ⟨k0, m1, l1d⟩ | go_keep) (fail)
        go_wp2
        go_ret
        exact ⟨_, _, by rw [HG.out]; rfl, by rw [HG.out]; exact (unhide HH0).below ((Below.refl _ _).drew), hbw.drew⟩
  · obtain ⟨t, rfl⟩ : ∃ t : Nat, tx = t := ⟨tx.toNat, by omega⟩
    have hvt : (Value.map (some b) :: sevenT.map vs)[1 + t]? = some (vs t) := by
      rw [Nat.add_comm, List.getElem?_cons_succ, List.getElem?_map]
      have := sevenT_at (t := (t : Int)) (by omega) h6
      rw [Int.toNat_natCast] at this
      rw [this]; rfl
    have hown := (unhide HH0).had t (by omega) h6
    obtain ⟨Ah, ch, hvs⟩ := own_slice hown
    have v0 := (unhide HH0).blk.cellS hvt
    rw [hvs] at v0
    have HV := Lib.hid hvs
    have j0 : (0 : Int) ≤ (t : Int) := by omega
    have j7 : (t : Int) < 7 := by omega
    generalize hln : (s.had t).length = ln at *
    have HLN := Lib.hid hln
    clear hvt hown hvs hln
    by_cases hz : h0 ≠ 0
    · rw [decide_eq_true hz] at l1 l1d
      have HG : Hid (gripF up s ⟨t, item, true⟩ = (7, s)) := Lib.hid (by unfold gripF; rw [if_pos rfl, if_pos (by simp only [HH.out]; exact hz)])
      clear hz
      go_enter Tryd.func61, Tryd.ntmps61
      go_wp2
      rw [HW.out]
      go_region_held3 (fun w' => w'.cell? ⟨g, 0, none⟩ = some (.map (some b)) ∧ w'.cell? ⟨w.heap.size, 1, none⟩ = some (.int .i64 item) ∧ (Instr.lookup 117 (.map (some b)) (.int .i64 item) true).run Tryd.prog w' = .ok (.tuple #[.int .i64 h0, .bool true]) w') (first | exact ⟨k0, m1, l1⟩ | exact ⟨k0, m1, l1d⟩ | go_keep) (fail)
      go_wp2
      go_quiet (fail)
      go_wp2
      go_ret
      exact ⟨_, _, by rw [HG.out]; rfl, by rw [HG.out]; exact (unhide HH0).below ((below_drewN (Below.refl _ _) _)), below_drewN hbw _⟩
    · have hz0 : h0 = 0 := Decidable.not_not.1 hz
      rw [decide_eq_false hz] at l1 l1d
      have CC := hide (fun w' (hb : Below w1.heap.size w1 w') => icontains_rd Ah ln ch (s.had t) item w' _ (by
        have hx := ((unhide HH0).below hb).had t (by omega) h6
        rw [HV.out, HLN.out] at hx
        exact rd_own hx) (by omega))
      obtain ⟨cc, hcc⟩ : ∃ cc : Bool, decide (item ∈ s.had t) = cc := ⟨_, rfl⟩
      rw [hcc] at CC
      have HCC := Lib.hid hcc
      clear hcc hz
      cases cc
      · have hnin : Hid (item ∉ s.had t) := Lib.hid (of_decide_eq_false HCC.out)
        by_cases hl0 : ln = 0
        · subst hl0
          have hnil : s.had t = [] := List.eq_nil_of_length_eq_zero HLN.out
          have HG : Hid (gripF up s ⟨t, item, true⟩ = (0, ⟨updF s.hold item t, updF s.had t (s.had t ++ [item])⟩)) := Lib.hid (by unfold gripF; rw [if_pos rfl, if_neg (by simp only [HH.out]; exact fun e => e hz0), if_neg hnin.out, if_neg (fun e => e.1 hnil)])
          clear hnil hz0
          go_enter Tryd.func61, Tryd.ntmps61
          go_wp2
          rw [HW.out]
          go_region_held3 (fun w' => w'.cell? ⟨g, 0, none⟩ = some (.map (some b)) ∧ w'.cell? ⟨w.heap.size, 1, none⟩ = some (.int .i64 item) ∧ (Instr.lookup 117 (.map (some b)) (.int .i64 item) true).run Tryd.prog w' = .ok (.tuple #[.int .i64 h0, .bool false]) w') (first | exact ⟨k0, m1, l1⟩ | exact ⟨k0, m1, l1d⟩ | go_keep) (fail)
          go_wp2
          go_quiet (fail)
          go_wp2_with fail
          refine (unhide CC _ (below_drewN (Below.refl _ _) _)).mono ?_
          rintro e w3 ⟨rfl, rfl⟩
          go_wp2
          obtain ⟨na, rfl⟩ : ∃ na : Nat, na = nq := ⟨nq, rfl⟩
          go_quiet (fail)
          obtain ⟨w4, hw4⟩ : ∃ w4 : World, (w1.drewN (1 + na)).drewN nq = w4 := ⟨_, rfl⟩
          rw [hw4]
          have k0e : w4.cell? ⟨g, 0, none⟩ = some (.map (some b)) := by rw [← hw4]; exact k0
          have m0e : w4.cell? ⟨w.heap.size, 0, none⟩ = some (.int .i64 (t : Int)) := by rw [← hw4]; exact m0
          have m1e : w4.cell? ⟨w.heap.size, 1, none⟩ = some (.int .i64 item) := by rw [← hw4]; exact m1
          have k0d : ({ w4 with drawn := w4.drawn + 1 } : World).cell? ⟨g, 0, none⟩ = some (.map (some b)) := k0e
          have m0d : ({ w4 with drawn := w4.drawn + 1 } : World).cell? ⟨w.heap.size, 0, none⟩ = some (.int .i64 (t : Int)) := m0e
          have m1d : ({ w4 with drawn := w4.drawn + 1 } : World).cell? ⟨w.heap.size, 1, none⟩ = some (.int .i64 item) := m1e
          have hbe : Below w1.heap.size w1 ({ w4 with drawn := w4.drawn + 1 } : World) := by rw [← hw4]; exact (below_drewN (below_drewN (Below.refl _ _) _) _).drew
          have HBE := hide hbe
          clear k0 m0 m1 v0 l1 l1d m2 hw4 hbe
          go_wp2
          go_still_tail 8, (by kernel_rfl)
          (with_reducible show wpList _ _ _ _ _ _)
          have hH4 := (unhide HH0).below (unhide HBE)
          refine wpList_updateI rfl (.tmp 83) (.tmp 85) (.tmp 87) _ rfl Tryd.underlying117 Tryd.underlying3 hH4.map (k := item) (u := .int .i64 (t : Int)) (by rfl) (by rfl) (by rfl) ?_
          intro w5 hm5 hg5
          have hH5 := hH4.mapped hg5 hm5 (holdM_put hH4.hold (i := item) (t := (t : Int)) (by omega))
          have hB5 := ((unhide HB0).below (unhide HBE) (unhide HB0).lt).grown hg5 (fun k hk => by cases hk; exact map_not_blk hH4.map ((unhide HB0).below (unhide HBE) (unhide HB0).lt))
          have hbw5 : Below lo w w5 := (hbw.trans ((unhide HBE).mono HLO.out)).grown hg5 (Nat.le_trans HLO.out (unhide HBE).size) (fun k hk => by cases hk; exact hH5.bl)
          have n0 := hB5.cellS (i := 0) (v := .int .i64 (t : Int)) rfl
          have n1 := hB5.cellS (i := 1) (v := .int .i64 item) rfl
          have hz5 : lo ≤ w5.heap.size := Nat.le_trans (Nat.le_trans HLO.out (unhide HBE).size) hg5.size
          have hown5 := hH5.had t (by omega) h6
          rw [HV.out] at hown5
          simp only at hown5
          rw [HLN.out] at hown5
          have HH5 := hide hH5
          have hg5l := hH5.blk.lt
          have hB5l := hB5.lt
          have one := oneI [item]
          have hownA : (w5.alloc (.cells #[.int .i64 item] 3)).drew.ownsRow lo 3 1 (.slice Ah 0 ch) 0 (cellsI (s.had t)) := own_alloc hown5 _
          have hrdA : Rd (w5.alloc (.cells #[.int .i64 item] 3)).drew (w5.heap.size + 1) 1 (some ⟨w5.heap.size, 0, none⟩) 1 (cellsI [item]) := rd_new w5 3 (cellsI [item]) rfl
          have hzA : lo ≤ (w5.alloc (.cells #[.int .i64 item] 3)).drew.heap.size := by show lo ≤ (w5.alloc (.cells #[.int .i64 item] 3)).heap.size; simp; omega
          have hBA : Blk (w5.alloc (.cells #[.int .i64 item] 3)).drew w.heap.size 115 [.int .i64 t, .int .i64 item, .bool true] := hB5.alloc _
          have hSA : Blk (w5.alloc (.cells #[.int .i64 item] 3)).drew g 120 (.map (some b) :: sevenT.map vs) := (unhide HH5).blk.alloc _
          have HOA := hide hownA
          clear k0e m0e m1e k0d m0d m1d hH4 hg5 hm5 hH5
          go_wp2
          go_region_held3 (fun w' => w'.cell? ⟨w.heap.size, 0, none⟩ = some (.int .i64 (t : Int)) ∧ w'.cell? ⟨w.heap.size, 1, none⟩ = some (.int .i64 item)) (first | exact hcell7 | exact ⟨(World.cell?_setCell_other w7 _ _ _ (by intro e; injection e with e; omega)).trans hcell7.1, (World.cell?_setCell_other w7 _ _ _ (by intro e; injection e with e; omega)).trans hcell7.2⟩ | exact ⟨n0, n1⟩ | exact ⟨(World.cell?_alloc_lt w5 _ _ hB5l).trans n0, (World.cell?_alloc_lt w5 _ _ hB5l).trans n1⟩ | go_keep)
            (first
              | (refine step_appT rfl (.tmp 91) (.tmp 94) _ rfl lo slt_ints (n := 0) (xs := cellsI (s.had t)) (m := 1) (news := cellsI [item]) rfl hownA rfl hrdA one (by omega) hzA ?_; intro v7 w7 hown7 hg7 hb7 hv7; obtain ⟨A7, c7, rfl⟩ := own_slice hown7; have hB7 := hBA.other hownA (by decide) hg7; have hcell7 : w7.cell? ⟨w.heap.size, 0, none⟩ = some (.int .i64 (t : Int)) ∧ w7.cell? ⟨w.heap.size, 1, none⟩ = some (.int .i64 item) := ⟨hB7.cellS (i := 0) (v := .int .i64 (t : Int)) rfl, hB7.cellS (i := 1) (v := .int .i64 item) rfl⟩; have hS7 := hSA.other hownA (by decide) hg7; have z7 := hS7.frozen (1 + t); obtain ⟨v8, hv8⟩ : ∃ v8, w7.cell? ⟨g, 1 + t, none⟩ = some v8 := ⟨_, hS7.cellS (seven_get vs (by omega))⟩))
          have hbA : Below w5.heap.size w5 (w5.alloc (.cells #[.int .i64 item] 3)).drew := ((Below.refl _ _).alloc (Nat.le_refl _) _).drew
          have hbF : Below lo w (w7.setCell ⟨g, 1 + t, none⟩ (.slice A7 1 c7)) := ((hbw5.trans (hbA.mono hz5)).trans hb7).setCell (p := ⟨g, 1 + t, none⟩) (unhide HH0).gl _
          have hH7 := (unhide HH5).grew (tx := (t : Int)) (by omega) h6 hbA (v := .slice A7 1 c7) (l := s.had t ++ [item]) (w3 := w7) (by
            have e : (s.had t ++ [item]).length = 1 := by rw [List.length_append, HLN.out]; rfl
            rw [e]
            have e2 : cellsI (s.had t ++ [item]) = cellsI (s.had t) ++ cellsI [item] := by simp [cellsI]
            rw [e2]; exact hown7) (by rw [HV.out]; exact hg7) (by rw [HV.out]; exact hv7)
          have HH7 := hide hH7
          clear hH7 hcell7 hB7 hS7 hg7 hown7 hv7 hv8
          go_wp2
          go_ret
          exact ⟨_, _, by rw [HG.out]; rfl, by rw [HG.out]; exact (unhide HH7), hbF⟩
        · have p1 : 0 < ln := by omega
          have p2 : decide (0 < ln) = true := decide_eq_true p1
          have hnn : s.had t ≠ [] := fun e => hl0 (by rw [← HLN.out, e]; rfl)
          have HNN := Lib.hid hnn
          clear hnn hl0
          by_cases hi1 : item = 1
          · subst hi1
            have HG : Hid (gripF up s ⟨t, 1, true⟩ = (6, s)) := Lib.hid (by unfold gripF; rw [if_pos rfl, if_neg (by simp only [HH.out]; exact fun e => e hz0), if_neg hnin.out, if_pos ⟨HNN.out, .inl rfl⟩])
            clear hz0
            go_enter Tryd.func61, Tryd.ntmps61
            go_wp2
            rw [HW.out]
            go_region_held3 (fun w' => w'.cell? ⟨g, 0, none⟩ = some (.map (some b)) ∧ w'.cell? ⟨w.heap.size, 1, none⟩ = some (.int .i64 1) ∧ (Instr.lookup 117 (.map (some b)) (.int .i64 1) true).run Tryd.prog w' = .ok (.tuple #[.int .i64 h0, .bool false]) w') (first | exact ⟨k0, m1, l1⟩ | exact ⟨k0, m1, l1d⟩ | go_keep) (fail)
            go_wp2
            go_quiet (fail)
            go_wp2_with fail
            refine (unhide CC _ (below_drewN (Below.refl _ _) _)).mono ?_
            rintro e w3 ⟨rfl, rfl⟩
            go_wp2
            go_quiet (fail)
            go_wp2
            go_ret
            exact ⟨_, _, by rw [HG.out]; rfl, by rw [HG.out]; exact (unhide HH0).below (below_drewN (Below.refl _ _) _), below_drewN hbw _⟩
          · obtain ⟨j, hj⟩ : ∃ j : Nat, item - 1 = j := ⟨(item - 1).toNat, by omega⟩
            obtain ⟨bu, offu, x, heu, hbu, hx, u0⟩ := (unhide HU).int (k := j) (by omega)
            cases heu
            have HX : Hid (upF up item = x) := Lib.hid (by unfold upF; rw [show item.toNat - 1 = j by omega, List.getD_eq_getElem?_getD, hx]; rfl)
            obtain ⟨hp, hhp⟩ : ∃ hp : Int, s.hold x = hp := ⟨_, rfl⟩
            have HHP := Lib.hid hhp
            have LKX := hide (fun (w' : World) (hm : MapI w' b mm) => (unhide HLK x w' hm).2)
            rw [hhp] at LKX
            have ti : (item == 1) = false := by simp [hi1]
            have y0 : (0 : Int) ≤ (j : Int) := by omega
            have y1 : (j : Int) < (nu : Int) := by omega
            have y2 : IntKind.i64.wrap (item - 1) = (j : Int) := by rw [hj]; exact IntWalk.i64_in _ (by omega)
            have y3 : IntKind.i64.wrap (j : Int) = (j : Int) := IntWalk.i64_in _ (by omega)
            have y5 : j < nu := by omega
            clear hx hhp hi1
            by_cases ht : hp = t
            · subst ht
              have HG : Hid (gripF up s ⟨t, item, true⟩ = (0, ⟨updF s.hold item t, updF s.had t (s.had t ++ [item])⟩)) := Lib.hid (by
                unfold gripF
                rw [if_pos rfl, if_neg (by simp only [HH.out]; exact fun e => e hz0), if_neg hnin.out, if_neg]
                rintro ⟨_, e | e⟩
                · have e : item = 1 := e
                  rw [e] at ti; cases ti
                · exact e (by rw [HX.out]; exact HHP.out))
              have tp : ((t : Int) != (t : Int)) = false := by simp
              clear hz0
              go_enter Tryd.func61, Tryd.ntmps61
              go_wp2
              rw [HW.out]
              go_region_held3 (fun w' => w'.cell? ⟨g, 0, none⟩ = some (.map (some b)) ∧ w'.cell? ⟨w.heap.size, 1, none⟩ = some (.int .i64 item) ∧ (Instr.lookup 117 (.map (some b)) (.int .i64 item) true).run Tryd.prog w' = .ok (.tuple #[.int .i64 h0, .bool false]) w') (first | exact ⟨k0, m1, l1⟩ | exact ⟨k0, m1, l1d⟩ | go_keep) (fail)
              go_wp2
              go_quiet (fail)
              go_wp2_with fail
              refine (unhide CC _ (below_drewN (Below.refl _ _) _)).mono ?_
              rintro e w3 ⟨rfl, rfl⟩
              go_wp2
              have hlx := fun N => unhide LKX (w1.drewN N) (show MapI (w1.drewN N) b mm from (unhide HH0).map)
              obtain ⟨na, rfl⟩ : ∃ na : Nat, na = nq := ⟨nq, rfl⟩
              go_region_held3 (fun w' => w'.cell? ⟨g, 0, none⟩ = some (.map (some b)) ∧ w'.cell? ⟨w.heap.size, 0, none⟩ = some (.int .i64 (t : Int)) ∧ w'.cell? ⟨w.heap.size, 1, none⟩ = some (.int .i64 item) ∧ w'.cell? ⟨bu, offu + j, none⟩ = some (.int .i64 x) ∧ (Instr.lookup 117 (.map (some b)) (.int .i64 x) false).run Tryd.prog w' = .ok (.int .i64 (t : Int)) w') (first | exact ⟨k0, m0, m1, u0, hlx (_ + 1)⟩ | go_keep) (fail)
              clear hlx
              obtain ⟨w4, hw4⟩ : ∃ w4 : World, w1.drewN (1 + na + 1) = w4 := ⟨_, rfl⟩
              rw [hw4]
              have k0e : w4.cell? ⟨g, 0, none⟩ = some (.map (some b)) := by rw [← hw4]; exact k0
              have m0e : w4.cell? ⟨w.heap.size, 0, none⟩ = some (.int .i64 (t : Int)) := by rw [← hw4]; exact m0
              have m1e : w4.cell? ⟨w.heap.size, 1, none⟩ = some (.int .i64 item) := by rw [← hw4]; exact m1
              have k0d : ({ w4 with drawn := w4.drawn + 1 } : World).cell? ⟨g, 0, none⟩ = some (.map (some b)) := k0e
              have m0d : ({ w4 with drawn := w4.drawn + 1 } : World).cell? ⟨w.heap.size, 0, none⟩ = some (.int .i64 (t : Int)) := m0e
              have m1d : ({ w4 with drawn := w4.drawn + 1 } : World).cell? ⟨w.heap.size, 1, none⟩ = some (.int .i64 item) := m1e
              have hbe : Below w1.heap.size w1 ({ w4 with drawn := w4.drawn + 1 } : World) := by rw [← hw4]; exact (below_drewN (Below.refl _ _) _).drew
              have HBE := hide hbe
              clear k0 m0 m1 v0 l1 l1d m2 hw4 hbe
              go_wp2
              go_still_tail 8, (by kernel_rfl)
              (with_reducible show wpList _ _ _ _ _ _)
              have hH4 := (unhide HH0).below (unhide HBE)
              refine wpList_updateI rfl (.tmp 83) (.tmp 85) (.tmp 87) _ rfl Tryd.underlying117 Tryd.underlying3 hH4.map (k := item) (u := .int .i64 (t : Int)) (by rfl) (by rfl) (by rfl) ?_
              intro w5 hm5 hg5
              have hH5 := hH4.mapped hg5 hm5 (holdM_put hH4.hold (i := item) (t := (t : Int)) (by omega))
              have hB5 := ((unhide HB0).below (unhide HBE) (unhide HB0).lt).grown hg5 (fun k hk => by cases hk; exact map_not_blk hH4.map ((unhide HB0).below (unhide HBE) (unhide HB0).lt))
              have hbw5 : Below lo w w5 := (hbw.trans ((unhide HBE).mono HLO.out)).grown hg5 (Nat.le_trans HLO.out (unhide HBE).size) (fun k hk => by cases hk; exact hH5.bl)
              have n0 := hB5.cellS (i := 0) (v := .int .i64 (t : Int)) rfl
              have n1 := hB5.cellS (i := 1) (v := .int .i64 item) rfl
              have hz5 : lo ≤ w5.heap.size := Nat.le_trans (Nat.le_trans HLO.out (unhide HBE).size) hg5.size
              have hown5 := hH5.had t (by omega) h6
              rw [HV.out] at hown5
              simp only at hown5
              rw [HLN.out] at hown5
              have HH5 := hide hH5
              have hg5l := hH5.blk.lt
              have hB5l := hB5.lt
              have one := oneI [item]
              have hownA : (w5.alloc (.cells #[.int .i64 item] 3)).drew.ownsRow lo 3 1 (.slice Ah ln ch) ln (cellsI (s.had t)) := own_alloc hown5 _
              have hrdA : Rd (w5.alloc (.cells #[.int .i64 item] 3)).drew (w5.heap.size + 1) 1 (some ⟨w5.heap.size, 0, none⟩) 1 (cellsI [item]) := rd_new w5 3 (cellsI [item]) rfl
              have hzA : lo ≤ (w5.alloc (.cells #[.int .i64 item] 3)).drew.heap.size := by show lo ≤ (w5.alloc (.cells #[.int .i64 item] 3)).heap.size; simp; omega
              have hBA : Blk (w5.alloc (.cells #[.int .i64 item] 3)).drew w.heap.size 115 [.int .i64 t, .int .i64 item, .bool true] := hB5.alloc _
              have hSA : Blk (w5.alloc (.cells #[.int .i64 item] 3)).drew g 120 (.map (some b) :: sevenT.map vs) := (unhide HH5).blk.alloc _
              have HOA := hide hownA
              clear k0e m0e m1e k0d m0d m1d hH4 hg5 hm5 hH5
              go_wp2
              go_region_held3 (fun w' => w'.cell? ⟨w.heap.size, 0, none⟩ = some (.int .i64 (t : Int)) ∧ w'.cell? ⟨w.heap.size, 1, none⟩ = some (.int .i64 item)) (first | exact hcell7 | exact ⟨(World.cell?_setCell_other w7 _ _ _ (by intro e; injection e with e; omega)).trans hcell7.1, (World.cell?_setCell_other w7 _ _ _ (by intro e; injection e with e; omega)).trans hcell7.2⟩ | exact ⟨n0, n1⟩ | exact ⟨(World.cell?_alloc_lt w5 _ _ hB5l).trans n0, (World.cell?_alloc_lt w5 _ _ hB5l).trans n1⟩ | go_keep)
                (first
                  | (refine step_appT rfl (.tmp 91) (.tmp 94) _ rfl lo slt_ints (n := ln) (xs := cellsI (s.had t)) (m := 1) (news := cellsI [item]) rfl hownA rfl hrdA one (by omega) hzA ?_; intro v7 w7 hown7 hg7 hb7 hv7; obtain ⟨A7, c7, rfl⟩ := own_slice hown7; have hB7 := hBA.other hownA (by decide) hg7; have hcell7 : w7.cell? ⟨w.heap.size, 0, none⟩ = some (.int .i64 (t : Int)) ∧ w7.cell? ⟨w.heap.size, 1, none⟩ = some (.int .i64 item) := ⟨hB7.cellS (i := 0) (v := .int .i64 (t : Int)) rfl, hB7.cellS (i := 1) (v := .int .i64 item) rfl⟩; have hS7 := hSA.other hownA (by decide) hg7; have z7 := hS7.frozen (1 + t); obtain ⟨v8, hv8⟩ : ∃ v8, w7.cell? ⟨g, 1 + t, none⟩ = some v8 := ⟨_, hS7.cellS (seven_get vs (by omega))⟩))
              have hbA : Below w5.heap.size w5 (w5.alloc (.cells #[.int .i64 item] 3)).drew := ((Below.refl _ _).alloc (Nat.le_refl _) _).drew
              have hbF : Below lo w (w7.setCell ⟨g, 1 + t, none⟩ (.slice A7 (ln + 1) c7)) := ((hbw5.trans (hbA.mono hz5)).trans hb7).setCell (p := ⟨g, 1 + t, none⟩) (unhide HH0).gl _
              have hH7 := (unhide HH5).grew (tx := (t : Int)) (by omega) h6 hbA (v := .slice A7 (ln + 1) c7) (l := s.had t ++ [item]) (w3 := w7) (by
                have e : (s.had t ++ [item]).length = ln + 1 := by rw [List.length_append, HLN.out]; rfl
                rw [e]
                have e2 : cellsI (s.had t ++ [item]) = cellsI (s.had t) ++ cellsI [item] := by simp [cellsI]
                rw [e2]; exact hown7) (by rw [HV.out]; exact hg7) (by rw [HV.out]; exact hv7)
              have HH7 := hide hH7
              clear hH7 hcell7 hB7 hS7 hg7 hown7 hv7 hv8
              go_wp2
              go_ret
              exact ⟨_, _, by rw [HG.out]; rfl, by rw [HG.out]; exact (unhide HH7), hbF⟩
            · have HG : Hid (gripF up s ⟨t, item, true⟩ = (6, s)) := Lib.hid (by unfold gripF; rw [if_pos rfl, if_neg (by simp only [HH.out]; exact fun e => e hz0), if_neg hnin.out, if_pos ⟨HNN.out, .inr (by rw [HX.out, HHP.out]; exact ht)⟩])
              have tp : (hp != (t : Int)) = true := by simp [ht]
              clear hz0 ht
              go_enter Tryd.func61, Tryd.ntmps61
              go_wp2
              rw [HW.out]
              go_region_held3 (fun w' => w'.cell? ⟨g, 0, none⟩ = some (.map (some b)) ∧ w'.cell? ⟨w.heap.size, 1, none⟩ = some (.int .i64 item) ∧ (Instr.lookup 117 (.map (some b)) (.int .i64 item) true).run Tryd.prog w' = .ok (.tuple #[.int .i64 h0, .bool false]) w') (first | exact ⟨k0, m1, l1⟩ | exact ⟨k0, m1, l1d⟩ | go_keep) (fail)
              go_wp2
              go_quiet (fail)
              go_wp2_with fail
              refine (unhide CC _ (below_drewN (Below.refl _ _) _)).mono ?_
              rintro e w3 ⟨rfl, rfl⟩
              go_wp2
              have hlx := fun N => unhide LKX (w1.drewN N) (show MapI (w1.drewN N) b mm from (unhide HH0).map)
              go_region_held3 (fun w' => w'.cell? ⟨g, 0, none⟩ = some (.map (some b)) ∧ w'.cell? ⟨w.heap.size, 0, none⟩ = some (.int .i64 (t : Int)) ∧ w'.cell? ⟨w.heap.size, 1, none⟩ = some (.int .i64 item) ∧ w'.cell? ⟨bu, offu + j, none⟩ = some (.int .i64 x) ∧ (Instr.lookup 117 (.map (some b)) (.int .i64 x) false).run Tryd.prog w' = .ok (.int .i64 hp) w') (first | exact ⟨k0, m0, m1, u0, hlx (_ + 1)⟩ | go_keep) (fail)
              go_wp2
              go_ret
              exact ⟨_, _, by rw [HG.out]; rfl, by rw [HG.out]; exact (unhide HH0).below ((below_drewN (Below.refl _ _) _).drew), (below_drewN hbw _).drew⟩
      · have HG : Hid (gripF up s ⟨t, item, true⟩ = (6, s)) := Lib.hid (by unfold gripF; rw [if_pos rfl, if_neg (by simp only [HH.out]; exact fun e => e hz0), if_pos (of_decide_eq_true HCC.out)])
        clear hz0
        go_enter Tryd.func61, Tryd.ntmps61
        go_wp2
        rw [HW.out]
        go_region_held3 (fun w' => w'.cell? ⟨g, 0, none⟩ = some (.map (some b)) ∧ w'.cell? ⟨w.heap.size, 1, none⟩ = some (.int .i64 item) ∧ (Instr.lookup 117 (.map (some b)) (.int .i64 item) true).run Tryd.prog w' = .ok (.tuple #[.int .i64 h0, .bool false]) w') (first | exact ⟨k0, m1, l1⟩ | exact ⟨k0, m1, l1d⟩ | go_keep) (fail)
        go_wp2
        go_quiet (fail)
        go_wp2_with fail
        refine (unhide CC _ (below_drewN (Below.refl _ _) _)).mono ?_
        rintro e w3 ⟨rfl, rfl⟩
        go_wp2
        go_ret
        exact ⟨_, _, by rw [HG.out]; rfl, by rw [HG.out]; exact (unhide HH0).below (below_drewN (Below.refl _ _) _), below_drewN hbw _⟩
end Go.Proofs.YtfmdeahblaikoaaDoor

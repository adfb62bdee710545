
/-
  CONTRACT of the runner's do, from those of free and avoid.
  CONTRACT of the runner's abort, from that of free.
  CONTRACT of the runner's free, from that of drain.
-/
import Derived.Test.YtbccnafdfeempaaGreatDoorQ21
import Derived.StillTailTactics

namespace Go.Proofs.YtbccnafdfeempaaGreatDoor
open Go.RowKit

/-- What a call of the runner leaves. -/
def RPost (way : Int) (lo : Nat) (w : World) (s' : RSt) (L : RLay) (tag : Nat → Int × Nat) (e : Ending) (w' : World) : Prop :=
  e = .returned .nilIface ∧ ∃ L' tag', SHeap way lo w' s' L' tag' ∧ (L'.g = L.g ∧ L'.gt = L.gt ∧ L'.gw = L.gw ∧ L'.gb = L.gb ∧ L'.ga = L.ga) ∧ StepS w w' tag tag'
def JCall (way : Int) (lo : Nat) (f : FuncId) (args : Nat → Array Value) (n : Nat) (j : Job) : Prop :=
  ∀ s s' L tag w, SHeap way lo w s L tag → runJ way n j s = some s' → s'.told.length ≤ 1000000 → s'.vic.length ≤ 1000000 → Calls Tryz.prog f (args L.g) w (RPost way lo w s' L tag)
def FreeC (way : Int) (lo n : Nat) : Prop := ∀ tx, JCall way lo 24 (fun g => #[.pointer (some ⟨g, 0, none⟩), .int .i64 tx]) n (.free tx)
def DrainC (way : Int) (lo n : Nat) : Prop := ∀ tx, JCall way lo 37 (fun g => #[.pointer (some ⟨g, 0, none⟩), .int .i64 tx]) n (.drain tx)
def AbortC (way : Int) (lo n : Nat) : Prop := ∀ tx, JCall way lo 44 (fun g => #[.pointer (some ⟨g, 0, none⟩), .int .i64 tx]) n (.abort tx)
def AvoidC (way : Int) (lo n : Nat) : Prop := ∀ tx, JCall way lo 26 (fun g => #[.pointer (some ⟨g, 0, none⟩), .int .i64 tx]) n (.avoid tx)
def DoC (way : Int) (lo n : Nat) : Prop := ∀ o, JCall way lo 14 (fun g => #[.pointer (some ⟨g, 0, none⟩), o.val]) n (.doo o)
theorem RPost.after {way : Int} {lo : Nat} {w wx w' : World} {s' : RSt} {L Lx : RLay} {tag tagx : Nat → Int × Nat} {e : Ending} (h : RPost way lo wx s' Lx tagx e w') (hs : StepS w wx tag tagx) (hl : Lx.g = L.g ∧ Lx.gt = L.gt ∧ Lx.gw = L.gw ∧ Lx.gb = L.gb ∧ Lx.ga = L.ga) : RPost way lo w s' L tag e w' := by
  obtain ⟨h1, L', tag', h2, ⟨a1, a2, a3, a4, a5⟩, h4⟩ := h
  obtain ⟨b1, b2, b3, b4, b5⟩ := hl
  exact ⟨h1, L', tag', h2, ⟨a1.trans b1, a2.trans b2, a3.trans b3, a4.trans b4, a5.trans b5⟩, hs.trans h4⟩
theorem RPost.get {way : Int} {lo : Nat} {w w' : World} {s' : RSt} {L : RLay} {tag : Nat → Int × Nat} {e : Ending} (h : RPost way lo w s' L tag e w') : e = .returned .nilIface ∧ ∃ vH vW vT vV tag', SHeap way lo w' s' ⟨L.g, L.gt, L.gw, L.gb, L.ga, vH, vW, vT, vV⟩ tag' ∧ StepS w w' tag tag' := by
  obtain ⟨h1, ⟨g, gt, gw, gb, ga, vH, vW, vT, vV⟩, tag', h2, ⟨a1, a2, a3, a4, a5⟩, h4⟩ := h
  simp only at a1 a2 a3 a4 a5
  subst a1 a2 a3 a4 a5
  exact ⟨h1, vH, vW, vT, vV, tag', h2, h4⟩
theorem endB_ends (o : HOp) : endB o = endsB o := by
  unfold endB endsB
  by_cases h1 : o.what = 3 <;> by_cases h2 : o.what = 4 <;> simp [h1, h2]

set_option maxRecDepth 100000 in
set_option maxHeartbeats 2000000 in
theorem do_end {way : Int} {lo n : Nat} (hF : FreeC way lo n) (o : HOp) (he : endB o = true) : JCall way lo 14 (fun g => #[.pointer (some ⟨g, 0, none⟩), o.val]) (n + 1) (.doo o) := by
  intro s s' L tag w H hrun ht hv
  unfold runJ at hrun
  rw [if_pos he] at hrun
  have htl := (runJ_told _ _ _ _ hrun).1
  have htl2 : s.told.length + 1 ≤ 1000000 := by simp [RSt.tells] at htl; omega
  have CF := hide (fun L2 tag2 w2 (h2 : SHeap way lo w2 (s.tells o) L2 tag2) => hF o.tx (s.tells o) s' L2 tag2 w2 h2 hrun ht hv)
  have CE := hide (fun w1 => ends_any o w1)
  rw [← endB_ends, he] at CE
  have hb0 : Below w.heap.size w (w.alloc (.cells #[.int .i64 o.tx, .int .i64 o.what, .int .i64 o.item] 43)) := (Below.refl _ _).alloc (Nat.le_refl _) _
  have hB0 := Blk.new w 43 [.int .i64 o.tx, .int .i64 o.what, .int .i64 o.item]
  have h9 : ∀ u ∈ cellsH [o], u.oneCell' = true := oneH _
  have hH0 := H.below hb0
  obtain ⟨g, gt, gw, gb, ga, vH, vW, vT, vV⟩ := L
  obtain ⟨AT, cT, hvT⟩ := own_slice hH0.told.1
  simp only at hvT
  subst hvT
  obtain ⟨tl, htl3⟩ : ∃ tl, s.told.length = tl := ⟨_, rfl⟩
  have HTL := Lib.hid htl3
  have HH := hide (fun w1 (hb : Below (w.alloc (.cells #[.int .i64 o.tx, .int .i64 o.what, .int .i64 o.item] 43)).heap.size (w.alloc (.cells #[.int .i64 o.tx, .int .i64 o.what, .int .i64 o.item] 43)) w1) => And.intro (hH0.below hb) (And.intro (hB0.below hb (by simp)) (hb0.trans (hb.mono hb0.size))))
  rw [htl3] at H
  have HHX := Lib.hid H
  rw [htl3] at htl2
  rw [htl3]
  clear H hH0 hb0 hB0 hrun ht hv htl he htl3
  obtain ⟨tx, what, item⟩ := o
  unfold HOp.val at CE ⊢
  rw [HTL.out] at HH
  generalize hw0 : w.alloc (.cells #[.int .i64 tx, .int .i64 what, .int .i64 item] 43) = w0 at *
  have hg0 : w.heap.size < w0.heap.size := by rw [← hw0]; simp
  obtain ⟨m0, m1, m2⟩ : w0.cell? ⟨w.heap.size, 0, none⟩ = some (.int .i64 tx) ∧ w0.cell? ⟨w.heap.size, 1, none⟩ = some (.int .i64 what) ∧ w0.cell? ⟨w.heap.size, 2, none⟩ = some (.int .i64 item) := by
    have h := (unhide HH w0 (Below.refl _ _)).2.1
    exact ⟨h.cellS rfl, h.cellS rfl, h.cellS rfl⟩
  go_enter Tryz.func14, Tryz.ntmps14
  go_wp2_with fail
  clear hw0
  refine (unhide CE _).mono ?_
  rintro e w1 ⟨rfl, hb1⟩
  have h1 := unhide HH w1 hb1
  obtain ⟨c0, c1, c2⟩ : w1.cell? ⟨w.heap.size, 0, none⟩ = some (.int .i64 tx) ∧ w1.cell? ⟨w.heap.size, 1, none⟩ = some (.int .i64 what) ∧ w1.cell? ⟨w.heap.size, 2, none⟩ = some (.int .i64 item) := ⟨h1.2.1.cellS rfl, h1.2.1.cellS rfl, h1.2.1.cellS rfl⟩
  obtain ⟨_, _, _, _, _, q5, _⟩ := h1.1.cells
  simp only at q5
  have hg1 : w.heap.size < w1.heap.size := Nat.lt_of_lt_of_le hg0 hb1.size
  have hgr : g < w1.heap.size := h1.1.run.1.lt
  have hlo1 := h1.1.loLe
  have k5a := (World.cell?_alloc_lt w1 (.cells #[.int .i64 tx, .int .i64 what, .int .i64 item] 43) ⟨g, 5, none⟩ hgr).trans q5
  have hHA : SHeap way lo (w1.drew.alloc (.cells (cellsH [⟨tx, what, item⟩]).toArray 43)) s ⟨g, gt, gw, gb, ga, vH, vW, .slice AT tl cT, vV⟩ tag := h1.1.below ((Below.refl _ _).drew.alloc (Nat.le_refl _) _)
  have hTO := hHA.told.1
  simp only at hTO
  rw [HTL.out] at hTO
  have HA := Lib.hid hHA
  clear hHA
  go_wp2_with fail
  go_region_law (first | ((refine step_app2 rfl (.tmp 14) (.tmp 16) _ rfl lo slt_op (v := .slice AT tl cT) (n := tl) (xs := cellsH s.told) (m := 1) (news := cellsH [⟨tx, what, item⟩]) rfl hTO rfl (rd_new' _ _ (cellsH [⟨tx, what, item⟩]) (by simp) rfl) h9 (by omega) (by simp; omega) ?_; intro v6 w6 hown6 hg6 hat6; obtain ⟨A6, c6, rfl⟩ := own_slice hown6; have hBk6 := HA.out.run.1.but (grown_but (P := fun m => m = (0, 6)) hg6 fun k hk => HA.out.told.2 k hk) (by rw [HA.out.run.2.1]; decide); have p0 := hBk6.cellS (i := 5) (v := .slice AT tl cT) rfl; have p1 := hBk6.frozen 5; have hbox6 := (h1.2.1.below ((Below.refl _ _).drew.alloc (Nat.le_refl _) (.cells (cellsH [⟨tx, what, item⟩]).toArray 43)) hg1).grown hg6 (fun k hk e => by have := (HHX.out.told.1.lt k hk).2; omega); have z0 := hbox6.cellS (i := 0) (v := .int .i64 tx) rfl)))
  all_goals
    have hgw := HHX.out.run.1.lt
    have z0' : (w6.setCell ⟨g, 5, none⟩ (.slice A6 (tl + 1) c6)).cell? ⟨w.heap.size, 0, none⟩ = some (.int .i64 tx) := (hbox6.far (p := ⟨g, 5, none⟩) (by simp at hgw ⊢; omega) _).cellS rfl
    have hSA : StepS w (w1.drew.alloc (.cells (cellsH [⟨tx, what, item⟩]).toArray 43)) tag tag := StepS.below (h1.2.2.drew.alloc h1.2.2.size _)
    obtain ⟨hT, hS⟩ := HA.out.tell (o := ⟨tx, what, item⟩) (by rw [HTL.out]) hown6 hg6 hat6
    have CF2 := hide (unhide CF _ _ _ hT)
    have hS2 := hSA.trans hS
    clear hT hS hSA
    go_wp2_with fail
    refine (unhide CF2).mono ?_
    rintro e w8 hP
    obtain ⟨rfl, hP2⟩ := hP.after hS2 ⟨rfl, rfl, rfl, rfl, rfl⟩
    go_wp2
    go_ret
    exact ⟨rfl, hP2⟩

theorem mode_of (o : HOp) : ∃ m, lockOf o = ⟨o.tx, o.item, m⟩ ∧ (((o.what == 2) = true ∧ m = 2) ∨ ((o.what == 2) = false ∧ m = 1)) := by
  unfold lockOf
  by_cases h : o.what = 2
  · exact ⟨2, by rw [if_pos h], .inl ⟨by simpa using h, rfl⟩⟩
  · exact ⟨1, by rw [if_neg h], .inr ⟨by simpa using h, rfl⟩⟩
set_option maxRecDepth 100000 in
set_option maxHeartbeats 4000000 in
theorem do_ask {way : Int} {lo n : Nat} (hA : AvoidC way lo n) (o : HOp) (he : endB o = false) : JCall way lo 14 (fun g => #[.pointer (some ⟨g, 0, none⟩), o.val]) (n + 1) (.doo o) := by
  intro s s' L tag w H hrun ht hv
  unfold runJ at hrun
  rw [if_neg (by rw [he]; simp)] at hrun
  by_cases hz : (askF s.T (lockOf o)).2.1 = 0
  rotate_left
  · rw [if_pos hz] at hrun; cases hrun
  rw [if_neg (fun h => h hz)] at hrun
  have hinv := ask_inv H.tab.2.2.2 (lockOf o)
  have CQ := hide (fun w1 (h1 : SHeap way lo w1 s L tag) => ask_any lo L.gt L.vH L.vW s.T.H s.T.W (lockOf o) w1 h1.tab.1 (by have := linv_held h1.tab.2.2.2; omega) (by have := linv_waits h1.tab.2.2.2; omega) h1.loLe h1.tab.2.2.2.apart)
  obtain ⟨is, er, T', hq⟩ : ∃ a b c, askF s.T (lockOf o) = (a, b, c) := ⟨_, _, _, rfl⟩
  rw [hq] at hz hrun hinv
  rw [show askF ⟨s.T.H, s.T.W⟩ (lockOf o) = (is, er, T') from hq] at CQ
  simp only at hz hrun hinv CQ
  subst hz
  rw [errV_zero] at CQ
  obtain ⟨md, hmd, hmode⟩ := mode_of o
  rw [hmd] at CQ
  have CE := hide (fun w1 => ends_any o w1)
  rw [← endB_ends, he] at CE
  have hb0 : Below w.heap.size w (w.alloc (.cells #[.int .i64 o.tx, .int .i64 o.what, .int .i64 o.item] 43)) := (Below.refl _ _).alloc (Nat.le_refl _) _
  have hB0 := Blk.new w 43 [.int .i64 o.tx, .int .i64 o.what, .int .i64 o.item]
  have h9 : ∀ u ∈ cellsH [o], u.oneCell' = true := oneH _
  have hH0 := H.below hb0
  have HH := hide (fun w1 (hb : Below (w.alloc (.cells #[.int .i64 o.tx, .int .i64 o.what, .int .i64 o.item] 43)).heap.size (w.alloc (.cells #[.int .i64 o.tx, .int .i64 o.what, .int .i64 o.item] 43)) w1) => And.intro (hH0.below hb) (And.intro (hB0.below hb (by simp)) (hb0.trans (hb.mono hb0.size))))
  have HHX := Lib.hid H
  have HINV := Lib.hid hinv
  have HLE := Lib.hid (And.intro ht hv)
  have HRUN := Lib.hid hrun
  have HWQ : Hid (o.what = o.what) := Lib.hid rfl
  clear H hH0 hb0 hB0 he hq hmd hinv ht hv hrun
  obtain ⟨tx, what, item⟩ := o
  unfold HOp.val at CE CQ ⊢
  simp only at CQ hmode HRUN HH CE h9 ⊢
  generalize hw0 : w.alloc (.cells #[.int .i64 tx, .int .i64 what, .int .i64 item] 43) = w0 at *
  have hg0 : w.heap.size < w0.heap.size := by rw [← hw0]; simp
  obtain ⟨m0, m1, m2⟩ : w0.cell? ⟨w.heap.size, 0, none⟩ = some (.int .i64 tx) ∧ w0.cell? ⟨w.heap.size, 1, none⟩ = some (.int .i64 what) ∧ w0.cell? ⟨w.heap.size, 2, none⟩ = some (.int .i64 item) := by
    have h := (unhide HH w0 (Below.refl _ _)).2.1
    exact ⟨h.cellS rfl, h.cellS rfl, h.cellS rfl⟩
  rcases hmode with ⟨hwb, rfl⟩ | ⟨hwb, rfl⟩
  all_goals
    go_enter Tryz.func14, Tryz.ntmps14
    go_wp2_with fail
    clear hw0
    refine (unhide CE _).mono ?_
    rintro e w1 ⟨rfl, hb1⟩
    have h1 := unhide HH w1 hb1
    obtain ⟨c0, c1, c2⟩ : w1.cell? ⟨w.heap.size, 0, none⟩ = some (.int .i64 tx) ∧ w1.cell? ⟨w.heap.size, 1, none⟩ = some (.int .i64 what) ∧ w1.cell? ⟨w.heap.size, 2, none⟩ = some (.int .i64 item) := ⟨h1.2.1.cellS rfl, h1.2.1.cellS rfl, h1.2.1.cellS rfl⟩
    obtain ⟨_, q1, _⟩ := h1.1.cells
    have hg1 : w.heap.size < w1.heap.size := Nat.lt_of_lt_of_le hg0 hb1.size
    have hgr : L.g < w1.heap.size := h1.1.run.1.lt
    have hHD : SHeap way lo w1.drew s L tag := h1.1.below (Below.refl _ _).drew
    have hBX : ∀ (w' : World) (u1 u2 : Value), Kept w1.drew w' L.gt L.vH L.vW u1 u2 → Blk w' w.heap.size 43 [.int .i64 tx, .int .i64 what, .int .i64 item] := fun w' u1 u2 hK => h1.2.1.drew.chg hK.1 (fun h => by
      rcases h with h | h | h
      · have := HHX.out.tab.1.blk.lt; omega
      · have := (HHX.out.tab.1.held.lt _ h).2; omega
      · have := (HHX.out.tab.1.waits.lt _ h).2; omega)
    have HBX := Lib.hid hBX
    have HDH := Lib.hid hHD
    clear hBX hHD
    go_wp2_with fail
    go_region_held3 (fun w' => w'.cell? ⟨L.g, 1, none⟩ = some (.pointer (some ⟨L.gt, 0, none⟩)) ∧ w'.cell? ⟨w.heap.size, 0, none⟩ = some (.int .i64 tx) ∧ w'.cell? ⟨w.heap.size, 2, none⟩ = some (.int .i64 item)) (first | exact ⟨q1, c0, c2⟩ | exact hcell6 | go_keep)
      (first
        | (go_at_call 25; refine (unhide CQ _ HDH.out).mono ?_; rintro e w2 ⟨v1, v2, rfl, hT2, hK2⟩; have hH2 := HDH.out.table (tag' := tagTo tag w1.drew.heap.size (0, 2)) (fun k hk => tagTo_old hk) hT2 HINV.out hK2 (fun k hk _ => tagTo_new hk); have hcell6 : w2.cell? ⟨L.g, 1, none⟩ = some (.pointer (some ⟨L.gt, 0, none⟩)) ∧ w2.cell? ⟨w.heap.size, 0, none⟩ = some (.int .i64 tx) ∧ w2.cell? ⟨w.heap.size, 2, none⟩ = some (.int .i64 item) := ⟨hH2.1.cells.2.1, (HBX.out _ _ _ hK2).cellS rfl, (HBX.out _ _ _ hK2).cellS rfl⟩))
    all_goals
      obtain ⟨hH2, hS2⟩ := hH2
      have hB2 := HBX.out _ _ _ hK2
      have hS2 := (StepS.below (tag := tag) h1.2.2.drew).trans hS2
      clear hT2 hcell6 q1 c0 c1 c2 m0 m1 m2
      have d0 := hB2.cellS (i := 0) (v := .int .i64 tx) rfl
      have d1 := hB2.cellS (i := 1) (v := .int .i64 what) rfl
      have d2 := hB2.cellS (i := 2) (v := .int .i64 item) rfl
      have hgr2 : L.g < w2.heap.size := hH2.run.1.lt
      have hbl2 : w.heap.size < w2.heap.size := hB2.lt
      have hgw : L.g < w.heap.size := HHX.out.run.1.lt
      cases is
      · obtain ⟨_, _, q2, _⟩ := hH2.cells
        simp only at q2
        have hHD2 := Lib.hid (hH2.below (Below.refl _ _).drew)
        have hmapT : Tryz.prog.underlying 54 = some (.map 3 43) := by kernel_rfl
        have hintT : Tryz.prog.underlying 3 = some (.int .i64) := by kernel_rfl
        have HT := Lib.hid (And.intro hmapT hintT)
        have HR2 := HRUN.out
        rw [if_neg (by simp)] at HR2
        have HR3 := Lib.hid HR2
        clear hmapT hintT HR2 HRUN
        go_wp2_with fail
        go_still_tail 7, (by kernel_rfl)
        (with_reducible show wpList _ _ _ _ _ _)
        refine wpList_updateF rfl (.tmp 58) (.tmp 60) (.tmp 61) _ rfl HT.out.1 HT.out.2 hHD2.out.wt.1 (k := tx) (u := (⟨tx, what, item⟩ : HOp).val) (by rfl) (by rfl) (by rfl) ?_
        intro w3 hm3 hg3
        obtain ⟨hH3, hS3⟩ := hHD2.out.wait (x := tx) (v := some ⟨tx, what, item⟩) hm3 hg3
        have hB3 := hB2.drew.grown hg3 (fun k hk e => by have h7 : L.gw < w.heap.size := HHX.out.wt.1.lt; have h8 : L.gw = k := (by injection hk); omega)
        have e0 := hB3.cellS (i := 0) (v := .int .i64 tx) rfl
        have CA := hide (hA tx _ _ _ _ w3 hH3 HR3.out HLE.out.1 HLE.out.2)
        have hS4 := hS2.trans ((StepS.below (Below.refl _ _).drew).trans hS3)
        clear hH3 hS3 hB3 hm3 hg3 hS2 hB2 hH2
        go_wp2_with fail
        refine (unhide CA).mono ?_
        rintro e w8 hP
        obtain ⟨rfl, hP2⟩ := hP.after hS4 ⟨rfl, rfl, rfl, rfl, rfl⟩
        go_wp2
        go_ret
        exact ⟨rfl, hP2⟩
      · have HR2 := HRUN.out
        rw [if_pos rfl] at HR2
        injection HR2 with HR2
        subst HR2
        clear HRUN
        have htl2 : s.told.length + 1 ≤ 1000000 := by have := HLE.out.1; simpa [RSt.tells] using this
        obtain ⟨tl, htl3⟩ : ∃ tl, s.told.length = tl := ⟨_, rfl⟩
        have HTL := Lib.hid htl3
        obtain ⟨_, _, _, _, _, q5, _⟩ := hH2.cells
        simp only at q5
        obtain ⟨AT, cT, hvT⟩ := own_slice hH2.told.1
        simp only at hvT
        rw [htl3] at hvT htl2
        rw [hvT] at q5
        have k5a := (World.cell?_alloc_lt w2 (.cells #[.int .i64 tx, .int .i64 what, .int .i64 item] 43) ⟨L.g, 5, none⟩ hgr2).trans q5
        have hlo2 := hH2.loLe
        have hHA : SHeap way lo (w2.drew.alloc (.cells (cellsH [⟨tx, what, item⟩]).toArray 43)) { s with T := T' } _ _ := hH2.below ((Below.refl _ _).drew.alloc (Nat.le_refl _) _)
        have hTO := hHA.told.1
        simp only [hvT] at hTO
        rw [HTL.out] at hTO
        have HA := Lib.hid hHA
        have HVT := Lib.hid hvT
        clear hHA htl3 hvT
        go_wp2_with fail
        go_region_law (first | ((refine step_app2 rfl (.tmp 49) (.tmp 51) _ rfl lo slt_op (v := .slice AT tl cT) (n := tl) (xs := cellsH s.told) (m := 1) (news := cellsH [⟨tx, what, item⟩]) rfl hTO rfl (rd_new' _ _ (cellsH [⟨tx, what, item⟩]) (by simp) rfl) h9 (by omega) (by simp; omega) ?_; intro v6 w6 hown6 hg6 hat6; obtain ⟨A6, c6, rfl⟩ := own_slice hown6; rw [← HVT.out] at hg6 hat6; have hBk6 := HA.out.run.1.but (grown_but (P := fun m => m = (0, 6)) hg6 fun k hk => HA.out.told.2 k hk) (by rw [HA.out.run.2.1]; decide); have p0 := (hBk6.cellS (i := 5) (v := L.vT) rfl).trans (congrArg some HVT.out); have p1 := hBk6.frozen 5)))
        all_goals
          have hSA : StepS w2 (w2.drew.alloc (.cells (cellsH [⟨tx, what, item⟩]).toArray 43)) _ _ := StepS.below (tag := tagTo tag w1.drew.heap.size (0, 2)) ((Below.refl _ _).drew.alloc (Nat.le_refl _) _)
          obtain ⟨hT, hS⟩ := HA.out.tell (o := ⟨tx, what, item⟩) (by rw [HTL.out]) hown6 hg6 hat6
          have hS5 := hS2.trans (hSA.trans hS)
          go_wp2
          go_ret
          exact ⟨rfl, _, _, hT, ⟨rfl, rfl, rfl, rfl, rfl⟩, hS5⟩
theorem do_any {way : Int} {lo n : Nat} (hF : FreeC way lo n) (hA : AvoidC way lo n) : DoC way lo (n + 1) := fun o => by
  cases h : endB o
  · exact do_ask hA o h
  · exact do_end hF o h
end Go.Proofs.YtbccnafdfeempaaGreatDoor


namespace Go.Proofs.YtbccnafdfeempaaGreatDoor
open Go.RowKit

set_option maxRecDepth 100000 in
set_option maxHeartbeats 4000000 in
theorem abort_any {way : Int} {lo n : Nat} (hF : FreeC way lo n) : AbortC way lo (n + 1) := by
  intro tx s s' L tag w H hrun ht hv
  unfold runJ at hrun
  have htl := runJ_told _ _ _ _ hrun
  have htl2 : s.told.length + 1 ≤ 1000000 ∧ s.vic.length + 1 ≤ 1000000 := by simp [RSt.aborts] at htl; omega
  have CF := hide (fun L2 tag2 w2 (h2 : SHeap way lo w2 (s.aborts tx) L2 tag2) => hF tx (s.aborts tx) s' L2 tag2 w2 h2 hrun ht hv)
  have hmap1 : Tryz.prog.underlying 56 = some (.map 3 4) := by kernel_rfl
  have hmap2 : Tryz.prog.underlying 54 = some (.map 3 43) := by kernel_rfl
  have hmap3 : Tryz.prog.underlying 55 = some (.map 3 22) := by kernel_rfl
  have hintT : Tryz.prog.underlying 3 = some (.int .i64) := by kernel_rfl
  have HT := Lib.hid (And.intro hmap1 (And.intro hmap2 (And.intro hmap3 hintT)))
  have h9 : ∀ u ∈ cellsH [⟨tx, 4, 0⟩], u.oneCell' = true := oneH _
  have h8 : ∀ u ∈ [Value.int .i64 tx], u.oneCell' = true := one1 rfl
  clear hmap1 hmap2 hmap3 hintT htl hrun ht hv
  obtain ⟨g, gt, gw, gb, ga, vH, vW, vT, vV⟩ := L
  obtain ⟨AT, cT, hvT⟩ := own_slice H.told.1
  obtain ⟨AV, cV, hvV⟩ := own_slice H.vic.1
  simp only at hvT hvV
  subst hvT hvV
  obtain ⟨tl, htl3⟩ : ∃ tl, s.told.length = tl := ⟨_, rfl⟩
  obtain ⟨vl, hvl3⟩ : ∃ vl, s.vic.length = vl := ⟨_, rfl⟩
  have HTL := Lib.hid (And.intro htl3 hvl3)
  rw [htl3, hvl3] at htl2
  rw [htl3, hvl3] at H
  rw [htl3, hvl3]
  obtain ⟨_, _, k2, k3, k4, k5, k6⟩ := H.cells
  have hgr : g < w.heap.size := H.run.1.lt
  have HHX := Lib.hid H
  simp only at k2 k3 k4 k5 k6
  clear H htl3 hvl3
  obtain ⟨htl4, hvl4⟩ := htl2
  go_enter Tryz.func44, Tryz.ntmps44
  go_wp2_with (first
    | ((with_reducible show wpList _ _ _ _ _ _); (refine wpList_updateF rfl (.tmp 8) (.tmp 9) (.const (.bool true)) _ rfl HT.out.1 HT.out.2.2.2 HHX.out.ab.1 (k := tx) (u := .bool true) (by rfl) (by rfl) (by rfl) ?_; intro w1 hm1 hg1; obtain ⟨hH1, hS1⟩ := HHX.out.abortd (x := tx) hm1 hg1; have HH1 := Lib.hid hH1; have HS1 := Lib.hid hS1; obtain ⟨_, _, q2, q3, _, q5, q6⟩ := hH1.cells; simp only at q2 q3 q5 q6; have hgr1 : g < w1.heap.size := hH1.run.1.lt; have hlo1 := hH1.loLe; have HA := Lib.hid (hH1.below ((Below.refl _ _).alloc (Nat.le_refl _) (.cells #[.int .i64 tx] 3))); have hVO := HA.out.vic.1; simp only at hVO; rw [HTL.out.2] at hVO; clear k2 k3 k4 k5 k6 hH1 hS1 hm1 hg1))
    | (at_builtin; (refine wpList_app rfl (.tmp 14) (.tmp 16) _ rfl lo slt_int (v := .slice AV vl cV) (n := vl) (xs := cellsI s.vic) (m := 1) (news := [.int .i64 tx]) rfl hVO rfl (rd_new' _ _ [.int .i64 tx] (by simp) rfl) h8 (by omega) (by simp; omega) ?_; intro v2 w2 hown2 hg2 _ hat2 _; obtain ⟨A2, c2, rfl⟩ := own_slice hown2; have hb2k := HA.out.run.1.but (grown_but (P := fun m => m = (0, 7)) hg2 fun k hk => HA.out.vic.2 k hk) (by rw [HA.out.run.2.1]; decide); have p6 := hb2k.cellS (i := 6) (v := .slice AV vl cV) rfl; have f6 := hb2k.frozen 6; obtain ⟨hH2, hS2⟩ := HA.out.victim (x := tx) (by rw [HTL.out.2]) hown2 hg2 hat2; have HH2 := Lib.hid hH2; have HS2 := Lib.hid hS2; have p5 := hb2k.cellS (i := 5) (v := .slice AT tl cT) rfl; have hgr2 := hb2k.lt; have HB := Lib.hid (hH2.below ((Below.refl _ _).alloc (Nat.le_refl _) (.cells (cellsH [⟨tx, 4, 0⟩]).toArray 43))); have hlo2 : lo ≤ w2.heap.size := (by have := hH2.loLe; simpa using this); have hTO := HB.out.told.1; simp only at hTO; rw [HTL.out.1] at hTO; clear hH2 hS2 hb2k q2 q3 q5 q6))
    | (at_builtin; (refine wpList_app rfl (.tmp 24) (.tmp 27) _ rfl lo slt_op (v := .slice AT tl cT) (n := tl) (xs := cellsH s.told) (m := 1) (news := cellsH [⟨tx, 4, 0⟩]) rfl hTO rfl (rd_new' _ _ (cellsH [⟨tx, 4, 0⟩]) (by simp) rfl) h9 (by omega) (by simp; omega) ?_; intro v3 w3 hown3 hg3 _ hat3 _; obtain ⟨A3, c3, rfl⟩ := own_slice hown3; have hb3k := HB.out.run.1.but (grown_but (P := fun m => m = (0, 6)) hg3 fun k hk => HB.out.told.2 k hk) (by rw [HB.out.run.2.1]; decide); have p5' := hb3k.cellS (i := 5) (v := .slice AT tl cT) rfl; have f5 := hb3k.frozen 5; obtain ⟨hH3, hS3⟩ := HB.out.tell (o := ⟨tx, 4, 0⟩) (by show tl + 1 = s.told.length + 1; rw [HTL.out.1]) hown3 hg3 hat3; have HH3 := Lib.hid hH3; have HS3 := Lib.hid hS3; have p2 := hb3k.cellS (i := 2) (v := .map (some gw)) rfl; have hgr3 := hb3k.lt; clear hH3 hS3 hb3k))
    | ((with_reducible show wpList _ _ _ _ _ _); (refine wpList_deleteF rfl (.tmp 34) (.tmp 35) _ rfl HT.out.2.1 HT.out.2.2.2 HH3.out.wt.1 (k := tx) (by rfl) (by rfl) ?_; intro w4 hm4 hg4; obtain ⟨hH4, hS4⟩ := HH3.out.wait (x := tx) (v := none) hm4 hg4; have HH4 := Lib.hid hH4; have HS4 := Lib.hid hS4; obtain ⟨_, _, _, r3, _⟩ := hH4.cells; simp only at r3; have hgr4 : g < w4.heap.size := hH4.run.1.lt; obtain ⟨fb, hfb1, hfb2⟩ := hH4.bh; have HFB := Lib.hid (And.intro hfb1 hfb2); clear hH4 hS4 hm4 hg4 hfb1 hfb2))
    | ((with_reducible show wpList _ _ _ _ _ _); (refine wpList_deleteF rfl (.tmp 39) (.tmp 40) _ rfl HT.out.2.2.1 HT.out.2.2.2 HFB.out.1.1 (k := tx) (by rfl) (by rfl) ?_; intro w5 hm5 hg5)))
  have hb5 := grown_but (tag := tagTo (tagTo tag (w1.alloc (.cells #[.int .i64 tx] 3)).heap.size (0, 7)) ((w2.setCell ⟨g, 6, none⟩ (.slice A2 (vl + 1) c2)).alloc (.cells (cellsH [⟨tx, 4, 0⟩]).toArray 43)).heap.size (0, 6)) (P := fun m => m = (0, 4)) hg5 fun k hk => (by rw [← (show gb = k by injection hk)]; exact HFB.out.1.2.1)
  obtain ⟨hH5, hS5⟩ := HH4.out.behind (x := tx) (l := []) (hb5.mono fun m h => Or.inl h) (fun _ _ => rfl) (HBh.del HFB.out.1 HFB.out.2 hb5 hm5)
  have hSS := ((((HS1.out.trans (StepS.below ((Below.refl _ _).alloc (Nat.le_refl _) _))).trans HS2.out).trans (StepS.below ((Below.refl _ _).alloc (Nat.le_refl _) _))).trans HS3.out).trans (HS4.out.trans hS5)
  refine (unhide CF _ _ _ hH5).mono ?_
  rintro e w8 hP
  obtain ⟨rfl, hP2⟩ := hP.after hSS ⟨rfl, rfl, rfl, rfl, rfl⟩
  go_wp2
  go_ret
  exact ⟨rfl, hP2⟩
end Go.Proofs.YtbccnafdfeempaaGreatDoor


namespace Go.Proofs.YtbccnafdfeempaaGreatDoor
open Go.RowKit

def optV : Option HOp → Value
  | some o => o.val
  | none => (⟨0, 0, 0⟩ : HOp).val
theorem goE_pos {way : Int} {m : Nat} {l : List HOp} {s s' : RSt} (h : runJ way m (.go l) s = some s') : ∃ m', m = m' + 1 := by
  cases m with
  | zero => simp [runJ] at h
  | succ m => exact ⟨m, rfl⟩

set_option maxRecDepth 100000 in
set_option maxHeartbeats 4000000 in
theorem free_any {way : Int} {lo n : Nat} (hD : ∀ m, m ≤ n → DrainC way lo m) : FreeC way lo (n + 1) := by
  intro tx s s' L tag w H hrun ht hv
  unfold runJ at hrun
  by_cases htx : txB tx = false
  · rw [if_pos htx] at hrun; cases hrun
  rw [if_neg htx] at hrun
  have htx : txB tx = true := by simpa using htx
  have HLE := Lib.hid (And.intro ht hv)
  have CF := hide (lfree_walk lo L.gt L.vH L.vW s.T.H s.T.W tx w H.tab.1 (by have := linv_held H.tab.2.2.2; omega) (by have := linv_waits H.tab.2.2.2; omega) H.loLe htx)
  unfold FreePost at CF
  rw [show (⟨s.T.H, s.T.W⟩ : LTab) = s.T from rfl] at CF
  have hinv := free_inv H.tab.2.2.2 tx
  have hout6 : (freeS s.T tx).out.length ≤ 100 := by
    have h1 := freeOutL s.T tx
    have := linv_waits H.tab.2.2.2
    omega
  obtain ⟨out, hout⟩ : ∃ out, (freeS s.T tx).out = out := ⟨_, rfl⟩
  rw [hout] at CF hrun hout6
  obtain ⟨T', hT'⟩ : ∃ T', freeT s.T tx = T' := ⟨_, rfl⟩
  rw [hT'] at CF hrun hinv
  obtain ⟨no, hno⟩ : ∃ no, out.length = no := ⟨_, rfl⟩
  rw [hno] at CF hout6
  have HNO := Lib.hid hno
  have HRUN := Lib.hid hrun
  have HINV := Lib.hid hinv
  have HHX := Lib.hid H
  have hgr : L.g < w.heap.size := H.run.1.lt
  obtain ⟨_, k1, _⟩ := H.cells
  clear hout hT' hno hrun hinv H ht hv htx
  go_enter Tryz.func24, Tryz.ntmps24
  go_wp2_with fail
  refine (unhide CF).mono ?_
  rintro e w1 ⟨vo, v1, v2, rfl, hown, hT1, hK1, hne1⟩
  obtain ⟨A, c, rfl⟩ := own_slice hown
  obtain ⟨tag1, ht1, htn, hto⟩ : ∃ tag1 : Nat → Int × Nat, (∀ k, k < w.heap.size → tag1 k = tag k) ∧ (∀ k, w.heap.size ≤ k → (v1.ownBlock = some k ∨ v2.ownBlock = some k) → tag1 k = (0, 2)) ∧ (∀ k, (Value.slice A no c).ownBlock = some k → 10 ≤ (tag1 k).2) := by
    refine ⟨fun k => if k < w.heap.size then tag k else if (Value.slice A no c).ownBlock = some k then (0, 20) else (0, 2), fun k hk => by simp [hk], fun k hk h => ?_, fun k hk => ?_⟩
    · have h3 : ¬ (Value.slice A no c).ownBlock = some k := fun e => by
        rcases h with h | h
        · exact (hne1 k e).1 h
        · exact (hne1 k e).2 h
      dsimp only
      rw [if_neg (by omega), if_neg h3]
    · have := (hown.lt k hk).1
      dsimp only
      rw [if_neg (by omega), if_pos hk]; decide
  obtain ⟨hH1, hS1⟩ := HHX.out.table ht1 hT1 HINV.out hK1 htn
  clear hT1 hK1 hne1 ht1 htn CF k1
  go_wp2
  go_loopw [26] (fun s26 wr => ∃ (k m : Nat) (s1 : RSt) (xH xW xT xV : Value) (tag1 : Nat → Int × Nat), k ≤ no ∧ s26 = .int .i64 k ∧ m ≤ n ∧ Hid (runJ way m (.go (out.drop k)) s1 = some s') ∧ SHeap way lo wr s1 ⟨L.g, L.gt, L.gw, L.gb, L.ga, xH, xW, xT, xV⟩ tag1 ∧
      StepS w wr tag tag1 ∧ wr.ownsRow w.heap.size 67 3 (.slice A no c) no (cellsH out) ∧ Hid (∀ k, (Value.slice A no c).ownBlock = some k → 10 ≤ (tag1 k).2)) (fun s26 _ => no - (intOf s26).toNat)
  case atStart => exact ⟨0, n, _, _, _, _, _, tag1, Nat.zero_le _, rfl, Nat.le_refl _, HRUN, hH1, hS1, hown, Lib.hid hto⟩
  case round =>
    clear hH1 hS1 hown hto HRUN
    obtain ⟨k, m, s1, xH, xW, xT, xV, tag1, hk, rfl, hm, HR, hH, hS, hown, HTO⟩ := hrel
    obtain ⟨m, rfl⟩ := goE_pos HR.out
    by_cases hlt : k < no
    · obtain ⟨b, off, x, he, hb, hx, z0, z1, z2⟩ := (rd_own hown).op (k := k) hlt
      cases he
      have HDR : Hid (out.drop k = x :: out.drop (k + 1)) := drop_at hx
      have HR1 := HR.out
      rw [HDR.out] at HR1
      unfold runJ at HR1
      obtain ⟨tx2, what, item⟩ := x
      simp only at HR1 z0 z1 z2
      have hgr1 : L.g < wr.heap.size := hH.run.1.lt
      obtain ⟨_, _, q2, _⟩ := hH.cells
      simp only at q2
      have hmapT : Tryz.prog.underlying 54 = some (.map 3 43) := by kernel_rfl
      have hintT : Tryz.prog.underlying 3 = some (.int .i64) := by kernel_rfl
      have hzO : ∀ w, (zeroValue 43).run Tryz.prog w = .ok (⟨0, 0, 0⟩ : HOp).val w := fun w => by kernel_rfl
      have HLK : Hid (∀ w', MapF w' L.gw (fWt s1) → (Instr.lookup 54 (.map (some L.gw)) (.int .i64 tx2) true).run Tryz.prog w' = .ok (.tuple #[optV (s1.wt tx2), .bool (s1.wt tx2).isSome]) w') := Lib.hid fun w' hm' => by
        rw [run_lookupF hmapT hintT hm' tx2 (hzO w') true, if_pos rfl]
        unfold fWt
        cases s1.wt tx2 <;> rfl
      have HT := Lib.hid (And.intro hmapT hintT)
      obtain ⟨w8, hw8⟩ : ∃ w8, wr.alloc (.cells #[.int .i64 tx2, .int .i64 what, .int .i64 item] 67) = w8 := ⟨_, rfl⟩
      have hbw8 : Below wr.heap.size wr w8 := by rw [← hw8]; exact (Below.refl _ _).alloc (Nat.le_refl _) _
      have hB8 : Blk w8 wr.heap.size 67 [.int .i64 tx2, .int .i64 what, .int .i64 item] := by rw [← hw8]; exact Blk.new wr _ _
      have HSF := hide (fun w' (hb : Below w8.heap.size w8 w') => And.intro (hH.below (hbw8.trans (hb.mono hbw8.size))).cells.2.2.1 (And.intro (show w'.cell? ⟨wr.heap.size, 0, none⟩ = some (.int .i64 tx2) from (hB8.below hb hB8.lt).cellS rfl) (HLK.out w' (hH.below (hbw8.trans (hb.mono hbw8.size))).wt.1)))
      clear hmapT hintT hzO hx
      cases hwt : s1.wt tx2 with
      | none =>
        rw [hwt] at HR1 HSF
        simp only at HR1
        have HR2 := Lib.hid HR1
        simp only [optV, HOp.val, Option.isSome_none] at HSF
        clear HR1 HR
        go_wp2_with fail
        clear hw8
        go_region_held3 (fun w' => w'.cell? ⟨L.g, 2, none⟩ = some (.map (some L.gw)) ∧ w'.cell? ⟨wr.heap.size, 0, none⟩ = some (.int .i64 tx2) ∧ (Instr.lookup 54 (.map (some L.gw)) (.int .i64 tx2) true).run Tryz.prog w' = .ok (.tuple #[.agg #[.int .i64 0, .int .i64 0, .int .i64 0], .bool false]) w') (first | exact unhide HSF _ (Below.refl _ _).drew | exact unhide HSF _ ((Below.refl _ _).drew.alloc (Nat.le_refl _) _) | go_keep) (fail)
        all_goals
          have hbx : Below wr.heap.size wr (w8.alloc (.cells #[.int .i64 0, .int .i64 0, .int .i64 0] 43)).drew := (hbw8.alloc hbw8.size _).drew
          have hHx := hH.below hbx
          have hSx := hS.trans (StepS.below (tag := tag1) hbx)
          have hox := own_below hown hbx (Nat.le_refl _)
          go_wp2
          go_roundw
          case rel => exact ⟨k + 1, m, s1, xH, xW, xT, xV, tag1, by omega, by go_num, by omega, HR2, hHx, hSx, hox, HTO⟩
          case measure => simp [intOf]; omega
      | some o =>
        rw [hwt] at HR1 HSF
        simp only at HR1
        cases hq : runJ way m (.drain tx2) { s1 with wt := updR s1.wt tx2 none, told := s1.told ++ [o] } with
        | none => rw [hq] at HR1; cases HR1
        | some s2 =>
        rw [hq] at HR1
        simp only at HR1
        have HR2 := Lib.hid HR1
        have hlen1 := runJ_told _ _ _ _ hq
        have hlen2 := runJ_told _ _ _ _ HR1
        have htl2 : s1.told.length + 1 ≤ 1000000 := by
          have := HLE.out.1
          simp only [List.length_append, List.length_singleton] at hlen1
          omega
        have HLE2 : Hid (s2.told.length ≤ 1000000 ∧ s2.vic.length ≤ 1000000) := Lib.hid (by have := HLE.out; omega)
        have CD := hide (fun L2 tag2 w2 (h2 : SHeap way lo w2 { s1 with wt := updR s1.wt tx2 none, told := s1.told ++ [o] } L2 tag2) => hD m (by omega) tx2 _ s2 L2 tag2 w2 h2 hq HLE2.out.1 HLE2.out.2)
        obtain ⟨o1, o2, o3⟩ := o
        have h9 : ∀ u ∈ cellsH [⟨o1, o2, o3⟩], u.oneCell' = true := oneH _
        simp only [optV, HOp.val, Option.isSome_some] at HSF
        clear HR1 HR hlen1 hlen2 hq HLE2
        go_wp2_with fail
        clear hw8
        go_region_held3 (fun w' => w'.cell? ⟨L.g, 2, none⟩ = some (.map (some L.gw)) ∧ w'.cell? ⟨wr.heap.size, 0, none⟩ = some (.int .i64 tx2) ∧ (Instr.lookup 54 (.map (some L.gw)) (.int .i64 tx2) true).run Tryz.prog w' = .ok (.tuple #[.agg #[.int .i64 o1, .int .i64 o2, .int .i64 o3], .bool true]) w') (first | exact unhide HSF _ (Below.refl _ _).drew | exact unhide HSF _ ((Below.refl _ _).drew.alloc (Nat.le_refl _) _) | go_keep) (fail)
        all_goals
          have hB9 : Blk (w8.alloc (.cells #[.int .i64 o1, .int .i64 o2, .int .i64 o3] 43)).drew w8.heap.size 43 [.int .i64 o1, .int .i64 o2, .int .i64 o3] := (Blk.new w8 _ _).drew
          have hbx : Below wr.heap.size wr (w8.alloc (.cells #[.int .i64 o1, .int .i64 o2, .int .i64 o3] 43)).drew := (hbw8.alloc hbw8.size _).drew
          have hB8' : Blk (w8.alloc (.cells #[.int .i64 o1, .int .i64 o2, .int .i64 o3] 43)).drew wr.heap.size 67 [.int .i64 tx2, .int .i64 what, .int .i64 item] := (hB8.alloc _).drew
          have h89 : wr.heap.size < w8.heap.size := hB8.lt
          generalize (w8.alloc (.cells #[.int .i64 o1, .int .i64 o2, .int .i64 o3] 43)).drew = wy at *
          have hHy := hH.below hbx
          have hSy := hS.trans (StepS.below (tag := tag1) hbx)
          have hoy := own_below hown hbx (Nat.le_refl _)
          obtain ⟨_, _, y2, _⟩ := hHy.cells
          simp only at y2
          have y8 := hB8'.cellS (i := 0) (v := .int .i64 tx2) rfl
          have hl8 : wr.heap.size < wy.heap.size := hB8'.lt
          have hgry : L.g < wy.heap.size := hHy.run.1.lt
          have HHYD := Lib.hid (hHy.below (Below.refl _ _).drew)
          have HGW := Lib.hid (show L.gw < wr.heap.size from hH.wt.1.lt)
          have HBT := Lib.hid (fun k (hk : xT.ownBlock = some k) => show k < wr.heap.size from (hH.told.1.lt k hk).2)
          clear hH hS hown q2 HSF hbw8 hB8 hbx
          go_wp2_with fail
          go_still_tail 6, (by kernel_rfl)
          (with_reducible show wpList _ _ _ _ _ _)
          refine wpList_deleteF rfl (.tmp 45) (.tmp 47) _ rfl HT.out.1 HT.out.2 HHYD.out.wt.1 (k := tx2) (by rfl) (by rfl) ?_
          intro w3 hm3 hg3
          obtain ⟨hH3, hS3⟩ := HHYD.out.wait (x := tx2) (v := none) hm3 hg3
          have hB93 := hB9.drew.grown hg3 (fun k hk e => by have h7 := HGW.out; have h8 : L.gw = k := (by injection hk); omega)
          have hB83 := hB8'.drew.grown hg3 (fun k hk e => by have h7 := HGW.out; have h8 : L.gw = k := (by injection hk); omega)
          have ho3 := own_same hoy (w' := w3) (fun k hk => (hg3.block k (hoy.lt k hk).2 (fun e => by
            have h5 := HTO.out k hk
            have h6 := hHy.wt.2.1
            have h8 : L.gw = k := (by injection e with e; exact e.symm)
            simp only at h6
            rw [h8] at h6
            rw [h6] at h5
            simp at h5)))
          have hS3 := hSy.trans ((StepS.below (tag := tag1) (Below.refl _ _).drew).trans hS3)
          have hz3 := hg3.size
          have hl83 : w8.heap.size < w3.heap.size := hB93.lt
          have hl8r3 : wr.heap.size < w3.heap.size := hB83.lt
          have hgr3 : L.g < w3.heap.size := hH3.run.1.lt
          have hlo3 := hH3.loLe
          have n0 := hB93.cellS (i := 0) (v := .int .i64 o1) rfl
          have n1 := hB93.cellS (i := 1) (v := .int .i64 o2) rfl
          have n2 := hB93.cellS (i := 2) (v := .int .i64 o3) rfl
          clear hHy hSy hoy y2 y8 HHYD hm3 hg3 hB9 hB8'
          obtain ⟨tl, htl3⟩ : ∃ tl, s1.told.length = tl := ⟨_, rfl⟩
          have HTL := Lib.hid htl3
          obtain ⟨_, _, _, _, _, q5, _⟩ := hH3.cells
          simp only at q5
          obtain ⟨AT, cT, hvT⟩ := own_slice hH3.told.1
          simp only at hvT
          rw [htl3] at hvT htl2
          rw [hvT] at q5
          have k5a := (World.cell?_alloc_lt w3 (.cells #[.int .i64 o1, .int .i64 o2, .int .i64 o3] 43) ⟨L.g, 5, none⟩ hgr3).trans q5
          have hHA : SHeap way lo (w3.drew.alloc (.cells (cellsH [⟨o1, o2, o3⟩]).toArray 43)) { s1 with wt := updR s1.wt tx2 none } _ _ := hH3.below ((Below.refl _ _).drew.alloc (Nat.le_refl _) _)
          have hTO := hHA.told.1
          simp only [hvT] at hTO
          rw [HTL.out] at hTO
          have HA := Lib.hid hHA
          have HVT := Lib.hid hvT
          clear hHA htl3 hvT
          go_wp2_with fail
          go_region_law (first | ((refine step_app2 rfl (.tmp 52) (.tmp 54) _ rfl lo slt_op (v := .slice AT tl cT) (n := tl) (xs := cellsH s1.told) (m := 1) (news := cellsH [⟨o1, o2, o3⟩]) rfl hTO rfl (rd_new' _ _ (cellsH [⟨o1, o2, o3⟩]) (by simp) rfl) h9 (by omega) (by simp; omega) ?_; intro v6 w6 hown6 hg6 hat6; obtain ⟨A6, c6, rfl⟩ := own_slice hown6; rw [← HVT.out] at hg6 hat6; have hBk6 := HA.out.run.1.but (grown_but (P := fun m => m = (0, 6)) hg6 fun k hk => HA.out.told.2 k hk) (by rw [HA.out.run.2.1]; decide); have p0 := (hBk6.cellS (i := 5) (v := xT) rfl).trans (congrArg some HVT.out); have p1 := hBk6.frozen 5)))
          all_goals
            have hB86 := (hB83.drew.alloc (.cells (cellsH [⟨o1, o2, o3⟩]).toArray 43)).grown hg6 (fun k hk e => by have := HBT.out k hk; omega)
            have hgwr : L.g < wr.heap.size := hgr1
            have n8 : (w6.setCell ⟨L.g, 5, none⟩ (.slice A6 (tl + 1) c6)).cell? ⟨wr.heap.size, 0, none⟩ = some (.int .i64 tx2) := (hB86.far (p := ⟨L.g, 5, none⟩) (by simp; omega) _).cellS rfl
            have n8' := hB86.cellS (i := 0) (v := .int .i64 tx2) rfl
            have hgs8 : L.g ≠ wr.heap.size := by omega
            have hSA : StepS w3 (w3.drew.alloc (.cells (cellsH [⟨o1, o2, o3⟩]).toArray 43)) tag1 tag1 := StepS.below ((Below.refl _ _).drew.alloc (Nat.le_refl _) _)
            have hoA := own_below ho3 ((Below.refl w3.heap.size w3).drew.alloc (Nat.le_refl _) (.cells (cellsH [⟨o1, o2, o3⟩]).toArray 43)) (Nat.le_refl _)
            obtain ⟨hT, hS4⟩ := HA.out.tell (o := ⟨o1, o2, o3⟩) (by show tl + 1 = s1.told.length + 1; rw [HTL.out]) hown6 hg6 hat6
            have ho6 := StepS.own hoA hS4 HTO.out
            have HTO6 := StepS.tags hoA hS4 HTO.out
            have hS6 := hS3.trans (hSA.trans hS4)
            have CD2 := hide (unhide CD _ _ _ hT)
            clear hT hS4 hS3 hSA hoA ho3 hB93 hB83 hH3 HA
            go_wp2_with fail
            refine (unhide CD2).mono ?_
            rintro e w9 hP
            obtain ⟨rfl, uH, uW, uT, uV, tag9, hH9, hS9⟩ := hP.get
            have ho9 := StepS.own ho6 hS9 HTO6
            have HTO9 := Lib.hid (StepS.tags ho6 hS9 HTO6)
            have hS10 := hS6.trans hS9
            clear hP CD2 ho6 HTO6 hS6 hS9
            go_wp2
            go_roundw
            case rel => exact ⟨k + 1, m, s2, uH, uW, uT, uV, tag9, by omega, by go_num, by omega, HR2, hH9, hS10, ho9, HTO9⟩
            case measure => simp [intOf]; omega
    · have HR1 := HR.out
      rw [drop_end (by rw [HNO.out]; omega)] at HR1
      unfold runJ at HR1
      injection HR1 with HR1
      subst HR1
      clear HR
      go_wp2
      go_ret
      exact ⟨rfl, _, tag1, hH, ⟨rfl, rfl, rfl, rfl, rfl⟩, hS⟩
end Go.Proofs.YtbccnafdfeempaaGreatDoor

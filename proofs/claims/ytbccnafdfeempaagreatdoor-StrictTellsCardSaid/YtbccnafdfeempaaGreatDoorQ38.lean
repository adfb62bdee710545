
/-
  CONTRACT of the reference's laneref2.Runner.abort, from that of free.
  CONTRACT of the reference's laneref2.Runner.do, from those of free and abort.
-/
import Derived.Test.YtbccnafdfeempaaGreatDoorQ37

namespace Go.Proofs.YtbccnafdfeempaaGreatDoor
open Go.RowKit

set_option maxRecDepth 100000 in
set_option maxHeartbeats 4000000 in
theorem qabort_any {way : Int} {lo n : Nat} (hF : FreeQC way lo n) : AbortQC way lo (n + 1) := by
  intro tx ht1 ht6 s s' L tag w H hrun ht hv
  unfold runJ at hrun
  have htl := runJ_told _ _ _ _ hrun
  have htl2 : s.told.length + 1 ≤ 1000000 ∧ s.vic.length + 1 ≤ 1000000 := by simp [RSt.aborts] at htl; omega
  have CF := hide (fun L2 tag2 w2 (h2 : QHeap way lo w2 (s.aborts tx) L2 tag2) => hF tx (s.aborts tx) s' L2 tag2 w2 h2 hrun ht hv)
  obtain ⟨d, rfl⟩ : ∃ d : Nat, tx = d := ⟨tx.toNat, by omega⟩
  have hd6 : d ≤ 6 := by omega
  have d0 : (0 : Int) ≤ (d : Int) := by omega
  have d7 : (d : Int) < 7 := by omega
  have h9 : ∀ u ∈ cellsH [⟨(d : Int), 4, 0⟩], u.oneCell' = true := oneH _
  have h8 : ∀ u ∈ [Value.int .i64 (d : Int)], u.oneCell' = true := one1 rfl
  clear htl hrun ht hv ht1 ht6
  obtain ⟨g, vH, vW, vT, vV, vB, op⟩ := L
  obtain ⟨AT, cT, hvT⟩ := own_slice H.told.1
  obtain ⟨AV, cV, hvV⟩ := own_slice H.vic.1
  simp only at hvT hvV
  subst hvT hvV
  obtain ⟨tl, htl3⟩ : ∃ tl, s.told.length = tl := ⟨_, rfl⟩
  obtain ⟨vl, hvl3⟩ : ∃ vl, s.vic.length = vl := ⟨_, rfl⟩
  have HTL := Lib.hid (And.intro htl3 hvl3)
  rw [htl3, hvl3] at htl2
  rw [htl3, hvl3] at H
  rw [htl3, hvl3]
  have kA := H.cA hd6
  have fA := H.fr (38 + d)
  simp only at kA fA
  obtain ⟨hH1, hS1⟩ := H.abortd hd6
  simp only at hH1 hS1
  clear H htl3 hvl3
  obtain ⟨htl4, hvl4⟩ := htl2
  go_enter Tryz.func21, Tryz.ntmps21
  go_upto_region 1 with fail
  generalize w.setCell ⟨g, 38 + d, none⟩ (.bool true) = w1 at *
  clear kA fA
  have HH1 := Lib.hid hH1
  have q5 := hH1.cT
  have q6 := hH1.cV
  simp only at q5 q6
  have hgr1 : g < w1.heap.size := hH1.run.lt
  have hlo1 := hH1.loLe
  have HA := Lib.hid (hH1.below ((Below.refl _ _).alloc (Nat.le_refl _) (.cells #[.int .i64 (d : Int)] 3)))
  have hVO := HA.out.vic.1
  simp only at hVO
  rw [HTL.out.2] at hVO
  have x1 : ¬ 45 = 3 + d := by omega
  have x2 : ¬ 3 + d = 45 := by omega
  have x3 : ¬ 45 = 31 + d := by omega
  have x4 : ¬ 31 + d = 45 := by omega
  have x5 : ¬ 3 + d = 31 + d := by omega
  have x6 : ¬ 31 + d = 3 + d := by omega
  clear hH1
  go_wp2_with (first
    | (at_builtin; (refine wpList_app rfl (.tmp 13) (.tmp 15) _ rfl lo slt_int (v := .slice AV vl cV) (n := vl) (xs := cellsI s.vic) (m := 1) (news := [.int .i64 (d : Int)]) rfl hVO rfl (rd_new' _ _ [.int .i64 (d : Int)] (by simp) rfl) h8 (by omega) (by simp; omega) ?_; intro v2 w2 hown2 hg2 _ hat2 _; obtain ⟨A2, c2, rfl⟩ := own_slice hown2; have hb2k := HA.out.run.but (grown_but (P := fun m => m = (0, 7)) hg2 fun k hk => HA.out.vic.2 k hk) (by rw [HA.out.mark]; decide); have p6 := hb2k.cellS (i := 46) (v := .slice AV vl cV) rfl; have f6 := hb2k.frozen 46; obtain ⟨hH2, hS2⟩ := HA.out.victim (x := (d : Int)) (by rw [HTL.out.2]) hown2 hg2 hat2; have HH2 := Lib.hid hH2; have HS2 := Lib.hid hS2; have p5 := hb2k.cellS (i := 45) (v := .slice AT tl cT) rfl; have hgr2 := hb2k.lt; have HB := Lib.hid (hH2.below ((Below.refl _ _).alloc (Nat.le_refl _) (.cells (cellsH [⟨(d : Int), 4, 0⟩]).toArray 43))); have hlo2 : lo ≤ w2.heap.size := (by have := hH2.loLe; simpa using this); have hTO := HB.out.told.1; simp only at hTO; rw [HTL.out.1] at hTO; clear hH2 hS2 hb2k q5 q6))
    | (at_builtin; (refine wpList_app rfl (.tmp 23) (.tmp 26) _ rfl lo slt_op (v := .slice AT tl cT) (n := tl) (xs := cellsH s.told) (m := 1) (news := cellsH [⟨(d : Int), 4, 0⟩]) rfl hTO rfl (rd_new' _ _ (cellsH [⟨(d : Int), 4, 0⟩]) (by simp) rfl) h9 (by omega) (by simp; omega) ?_; intro v3 w3 hown3 hg3 _ hat3 _; obtain ⟨A3, c3, rfl⟩ := own_slice hown3; have hb3k := HB.out.run.but (grown_but (P := fun m => m = (0, 6)) hg3 fun k hk => HB.out.told.2 k hk) (by rw [HB.out.mark]; decide); have p5' := hb3k.cellS (i := 45) (v := .slice AT tl cT) rfl; have f5 := hb3k.frozen 45; obtain ⟨hH3, hS3⟩ := HB.out.tell (o := ⟨(d : Int), 4, 0⟩) (by show tl + 1 = s.told.length + 1; rw [HTL.out.1]) hown3 hg3 hat3; have HH3 := Lib.hid hH3; have HS3 := Lib.hid hS3; have p3 := hb3k.cellS (q_w hd6); have f3 := hb3k.frozen (3 + d); have p31 := hb3k.cellS (q_b hd6); have f31 := hb3k.frozen (31 + d); have hgr3 := hb3k.lt; clear hH3 hS3 hb3k)))
  obtain ⟨hH4, hS4⟩ := HH3.out.unwait hd6
  simp only at hH4 hS4
  obtain ⟨hH5, hS5⟩ := hH4.behind hd6 (tag' := _) (v := .slice none 0 0) (l := []) (But.refl _ _ _ _) (fun _ _ => rfl) (QRow.nil _ _ _) (fun j hj => by cases hj) (fun o ho => by cases ho) (fun j hj => by cases hj)
  have hSS := (((hS1.trans (StepS.below ((Below.refl _ _).alloc (Nat.le_refl _) _))).trans HS2.out).trans (StepS.below ((Below.refl _ _).alloc (Nat.le_refl _) _))).trans (HS3.out.trans (hS4.trans hS5))
  refine (unhide CF _ _ _ hH5).mono ?_
  rintro e w8 hP
  obtain ⟨⟨ve, rfl⟩, hP2⟩ := hP.after hSS rfl
  go_wp2
  go_end0
  exact ⟨⟨_, rfl⟩, hP2⟩
end Go.Proofs.YtbccnafdfeempaaGreatDoor


namespace Go.Proofs.YtbccnafdfeempaaGreatDoor
open Go.RowKit

theorem right_parts {o : HOp} (h : rightB o = true) : 1 ≤ o.tx ∧ o.tx ≤ 6 ∧ 1 ≤ o.what ∧ o.what ≤ 4 := by
  unfold rightB txB at h
  simp only [Bool.and_eq_true, decide_eq_true_eq] at h
  omega
set_option maxRecDepth 100000 in
set_option maxHeartbeats 2000000 in
theorem qdo_end {way : Int} {lo n : Nat} (hF : FreeQC way lo n) (o : HOp) (he : endB o = true) : JCallQ way lo 11 (fun g => #[.pointer (some ⟨g, 0, none⟩), o.val]) (n + 1) (.doo o) := by
  intro s s' L tag w H hrun ht hv
  unfold runJ at hrun
  rw [if_pos he] at hrun
  have htl := (runJ_told _ _ _ _ hrun).1
  have htl2 : s.told.length + 1 ≤ 1000000 := by simp [RSt.tells] at htl; omega
  have CF := hide (fun L2 tag2 w2 (h2 : QHeap way lo w2 (s.tells o) L2 tag2) => hF o.tx (s.tells o) s' L2 tag2 w2 h2 hrun ht hv)
  have hw3 : 3 ≤ o.what := by
    unfold endB at he
    simp only [Bool.or_eq_true, decide_eq_true_eq] at he
    omega
  have hb0 : Below w.heap.size w (w.alloc (.cells #[.int .i64 o.tx, .int .i64 o.what, .int .i64 o.item] 43)) := (Below.refl _ _).alloc (Nat.le_refl _) _
  have hB0 := Blk.new w 43 [.int .i64 o.tx, .int .i64 o.what, .int .i64 o.item]
  have h9 : ∀ u ∈ cellsH [o], u.oneCell' = true := oneH _
  have hH0 := H.below hb0
  obtain ⟨g, vH, vW, vT, vV, vB, op⟩ := L
  obtain ⟨AT, cT, hvT⟩ := own_slice hH0.told.1
  simp only at hvT
  subst hvT
  obtain ⟨tl, htl3⟩ : ∃ tl, s.told.length = tl := ⟨_, rfl⟩
  have HTL := Lib.hid htl3
  rw [htl3] at H hH0
  have HHX := Lib.hid H
  rw [htl3] at htl2
  rw [htl3]
  have hgw : g < w.heap.size := H.run.lt
  have HB00 := Lib.hid hb0
  clear H hb0 hrun ht hv htl he htl3
  obtain ⟨tx, what, item⟩ := o
  unfold HOp.val
  simp only at hw3 hH0 hB0 h9 CF
  have c0 := hB0.cellS (i := 0) (v := .int .i64 tx) rfl
  have c1 := hB0.cellS (i := 1) (v := .int .i64 what) rfl
  have c2 := hB0.cellS (i := 2) (v := .int .i64 item) rfl
  go_enter Tryz.func11, Tryz.ntmps11
  go_wp2_with fail
  have hgl1 : w.heap.size < (w.alloc (.cells #[.int .i64 tx, .int .i64 what, .int .i64 item] 43)).heap.size := by simp
  generalize w.alloc (.cells #[.int .i64 tx, .int .i64 what, .int .i64 item] 43) = w1 at *
  have q5 := hH0.cT
  simp only at q5
  have hgr : g < w1.heap.size := hH0.run.lt
  have hlo1 := hH0.loLe
  have k5a := (World.cell?_alloc_lt w1 (.cells #[.int .i64 tx, .int .i64 what, .int .i64 item] 43) ⟨g, 45, none⟩ hgr).trans q5
  have hHA : QHeap way lo (w1.drew.alloc (.cells (cellsH [⟨tx, what, item⟩]).toArray 43)) s ⟨g, vH, vW, .slice AT tl cT, vV, vB, op⟩ tag := hH0.below ((Below.refl _ _).drew.alloc (Nat.le_refl _) _)
  have hTO := hHA.told.1
  simp only at hTO
  rw [HTL.out] at hTO
  have HA := Lib.hid hHA
  clear hHA
  go_region_law (first | ((refine step_app2 rfl (.tmp 17) (.tmp 19) _ rfl lo slt_op (v := .slice AT tl cT) (n := tl) (xs := cellsH s.told) (m := 1) (news := cellsH [⟨tx, what, item⟩]) rfl hTO rfl (rd_new' _ _ (cellsH [⟨tx, what, item⟩]) (by simp) rfl) h9 (by omega) (by simp; omega) ?_; intro v6 w6 hown6 hg6 hat6; obtain ⟨A6, c6, rfl⟩ := own_slice hown6; have hBk6 := HA.out.run.but (grown_but (P := fun m => m = (0, 6)) hg6 fun k hk => HA.out.told.2 k hk) (by rw [HA.out.mark]; decide); have p0 := hBk6.cellS (i := 45) (v := .slice AT tl cT) rfl; have p1 := hBk6.frozen 45; have hbox6 := (hB0.below ((Below.refl _ _).drew.alloc (Nat.le_refl _) (.cells (cellsH [⟨tx, what, item⟩]).toArray 43)) hgl1).grown hg6 (fun k hk e => by have := (HHX.out.told.1.lt k hk).2; omega); have z0 := hbox6.cellS (i := 0) (v := .int .i64 tx) rfl)))
  all_goals
    have hgne : g ≠ w.heap.size := by omega
    have z0' : (w6.setCell ⟨g, 45, none⟩ (.slice A6 (tl + 1) c6)).cell? ⟨w.heap.size, 0, none⟩ = some (.int .i64 tx) := (hbox6.far (p := ⟨g, 45, none⟩) (by simp; omega) _).cellS rfl
    have hSA : StepS w (w1.drew.alloc (.cells (cellsH [⟨tx, what, item⟩]).toArray 43)) tag tag := StepS.below (HB00.out.drew.alloc HB00.out.size _)
    obtain ⟨hT, hS⟩ := HA.out.tell (o := ⟨tx, what, item⟩) (by rw [HTL.out]) hown6 hg6 hat6
    have CF2 := hide (unhide CF _ _ _ hT)
    have hS2 := hSA.trans hS
    clear hT hS hSA
    go_wp2_with fail
    refine (unhide CF2).mono ?_
    rintro e w8 hP
    obtain ⟨⟨ve, rfl⟩, hP2⟩ := hP.after hS2 rfl
    go_wp2
    go_end0
    exact ⟨⟨_, rfl⟩, hP2⟩

theorem whom_ne {T : LTab} {tx d : Int} (h : d ∈ whomF T tx) : d ≠ tx := by
  unfold whomF at h
  split at h
  · cases h
  · rename_i l hl
    obtain ⟨_, h2⟩ := find_ofTx hl
    unfold forF at h
    rw [mem_sortS] at h
    obtain ⟨x, hx, rfl⟩ := List.mem_map.1 h
    have h3 := (lodds_get.1 (List.mem_filter.1 hx).2).1
    rwa [h2] at h3
/-- Marks beyond the heap's end are free. -/
theorem QHeap.retag {way : Int} {lo : Nat} {w : World} {s : RSt} {L : QLay} {tag tag' : Nat → Int × Nat} (H : QHeap way lo w s L tag) (ht : ∀ k, k < w.heap.size → tag' k = tag k) : QHeap way lo w s L tag' := by
  have hb : But w.heap.size tag (fun _ => False) w w := But.refl _ _ _ _
  exact ⟨H.run, by rw [ht _ H.run.lt]; exact H.mark, H.loG, H.tab.but hb id ht, H.ops, H.bh.but hb (fun _ => id) ht, H.told.but hb id ht, H.vic.but hb id ht⟩
/-- Where the loop of do stands, with so much fuel left. -/
def AvoidQ (way : Int) (lo n : Nat) (d : Nat) (s' : RSt) (g : Nat) (w : World) (tag : Nat → Int × Nat) (what item : Int) (wr : World) (m : Nat) : Prop :=
  ∃ s1 xH xW xT xV xB xo tag1, m ≤ n ∧ runJ way m (.avoid d) s1 = some s' ∧ QHeap way lo wr s1 ⟨g, xH, xW, xT, xV, xB, xo⟩ tag1 ∧ StepS w wr tag tag1 ∧ Blk wr w.heap.size 43 [.int .i64 (d : Int), .int .i64 what, .int .i64 item] ∧ 10 ≤ (tag1 w.heap.size).2
def FinQ (way : Int) (lo : Nat) (s' : RSt) (g : Nat) (w : World) (tag : Nat → Int × Nat) (wr : World) : Prop :=
  ∃ xH xW xT xV xB xo tag1, QHeap way lo wr s' ⟨g, xH, xW, xT, xV, xB, xo⟩ tag1 ∧ StepS w wr tag tag1
theorem find_here {α : Type} {p : α → Bool} {l : List α} {i : Nat} {x : α} (h : l[i]? = some x) (hp : p x = true) (hn : ∀ y ∈ l.take i, ¬ p y = true) : l.find? p = some x := by
  have hi := (List.getElem?_eq_some_iff.1 h).1
  rw [List.find?_eq_some_iff_getElem]
  refine ⟨hp, i, hi, (List.getElem?_eq_some_iff.1 h).2, fun j hj => ?_⟩
  have : l[j]'(by omega) ∈ l.take i := by
    rw [List.mem_iff_getElem?]
    exact ⟨j, by rw [List.getElem?_take, if_pos hj, List.getElem?_eq_getElem]⟩
  simpa using hn _ this
def muA (q : Value) (n : Nat) : Nat := match q with
  | .bool true => n + 1
  | _ => 0

set_option maxRecDepth 100000 in
set_option maxHeartbeats 8000000 in
theorem qdo_ask {way : Int} {lo n : Nat} (hA : ∀ m, m ≤ n → AbortQC way lo m) (o : HOp) (hr : rightB o = true) (he : endB o = false) : JCallQ way lo 11 (fun g => #[.pointer (some ⟨g, 0, none⟩), o.val]) (n + 1) (.doo o) := by
  intro s s' L tagA w HA0 hrun ht hv
  obtain ⟨tag, htag⟩ : ∃ tag, tagTo tagA w.heap.size (0, 20) = tag := ⟨_, rfl⟩
  have hst0 : StepS w w tagA tag := ⟨But.refl _ _ _ _, fun k hk => by rw [← htag]; exact tagTo_old hk⟩
  have hbox : tag w.heap.size = (0, 20) := by rw [← htag]; exact tagTo_new (Nat.le_refl _)
  have H := HA0.retag hst0.2
  suffices hsuf : Calls Tryz.prog 11 #[.pointer (some ⟨L.g, 0, none⟩), o.val] w (QPost way lo w s' L tag) from hsuf.mono fun e w' hP => hP.after hst0 rfl
  have HBOX := Lib.hid hbox
  clear hst0 htag hbox HA0
  unfold runJ at hrun
  rw [if_neg (by rw [he]; simp)] at hrun
  by_cases hz : (askF s.T (lockOf o)).2.1 = 0
  rotate_left
  · rw [if_pos hz] at hrun; cases hrun
  rw [if_neg (fun h => h hz)] at hrun
  have hinv := ask_inv H.tab.inv (lockOf o)
  have CQ := hide (fun w1 (h1 : QHeap way lo w1 s L tag) => sask_any lo L.g L.vH L.vW s.T.H s.T.W (lockOf o) w1 h1.tabR (by have := linv_held h1.tab.inv; omega) (by have := linv_waits h1.tab.inv; omega) h1.loLe)
  unfold AskPostRn at CQ
  obtain ⟨is, er, T', hq⟩ : ∃ a b c, askF s.T (lockOf o) = (a, b, c) := ⟨_, _, _, rfl⟩
  rw [hq] at hz hrun hinv
  rw [show askF ⟨s.T.H, s.T.W⟩ (lockOf o) = (is, er, T') from hq] at CQ
  simp only at hz hrun hinv CQ
  subst hz
  obtain ⟨p1, p6, pw1, pw4⟩ := right_parts hr
  have hw12 : o.what = 1 ∨ o.what = 2 := by
    unfold endB at he
    simp only [Bool.or_eq_false_iff, decide_eq_false_iff_not] at he
    omega
  have hlk : lockOf o = ⟨o.tx, o.item, o.what⟩ := by
    unfold lockOf
    rcases hw12 with e | e
    · rw [if_neg (by omega), e]
    · rw [if_pos e, e]
  rw [hlk] at CQ
  have hw3 : ¬ 3 ≤ o.what := by omega
  have hb0 : Below w.heap.size w (w.alloc (.cells #[.int .i64 o.tx, .int .i64 o.what, .int .i64 o.item] 43)) := (Below.refl _ _).alloc (Nat.le_refl _) _
  have hB0 := Blk.new w 43 [.int .i64 o.tx, .int .i64 o.what, .int .i64 o.item]
  have h9 : ∀ u ∈ cellsH [o], u.oneCell' = true := oneH _
  have hH0 := H.below hb0
  have HHX := Lib.hid H
  have HINV := Lib.hid hinv
  have HLE := Lib.hid (And.intro ht hv)
  have HRUN := Lib.hid hrun
  have HB00 := Lib.hid hb0
  have hgw : L.g < w.heap.size := H.run.lt
  clear H hb0 he hq hlk hinv ht hv hrun hr pw1 pw4 hw12
  obtain ⟨tx, what, item⟩ := o
  unfold HOp.val at CQ ⊢
  simp only at CQ hw3 HRUN hH0 hB0 h9 p1 p6 ⊢
  obtain ⟨d, rfl⟩ : ∃ d : Nat, tx = d := ⟨tx.toNat, by omega⟩
  have hd6 : d ≤ 6 := by omega
  have hd1 : 1 ≤ d := by omega
  have d0 : (0 : Int) ≤ (d : Int) := by omega
  have d7 : (d : Int) < 7 := by omega
  have c0 := hB0.cellS (i := 0) (v := .int .i64 d) rfl
  have c1 := hB0.cellS (i := 1) (v := .int .i64 what) rfl
  have c2 := hB0.cellS (i := 2) (v := .int .i64 item) rfl
  clear p1 p6
  go_enter Tryz.func11, Tryz.ntmps11
  go_wp2_with fail
  have hg1 : w.heap.size < (w.alloc (.cells #[.int .i64 (d : Int), .int .i64 what, .int .i64 item] 43)).heap.size := by simp
  generalize w.alloc (.cells #[.int .i64 (d : Int), .int .i64 what, .int .i64 item] 43) = w1 at *
  have hgr : L.g < w1.heap.size := hH0.run.lt
  have hHD : QHeap way lo w1.drew s L tag := hH0.below (Below.refl _ _).drew
  have hBX : ∀ (w' : World) (u1 u2 : Value), Kept w1.drew w' L.g L.vH L.vW u1 u2 → Blk w' w.heap.size 43 [.int .i64 (d : Int), .int .i64 what, .int .i64 item] := fun w' u1 u2 hK => hB0.drew.chg hK.1 (fun h => by
    rcases h with h | h | h
    · omega
    · have := (HHX.out.tab.held.1.lt _ h).2; omega
    · have := (HHX.out.tab.waits.1.lt _ h).2; omega)
  have HBX := Lib.hid hBX
  have HDH := Lib.hid hHD
  clear hBX hHD
  go_region_held3 (fun w' => w'.cell? ⟨w.heap.size, 0, none⟩ = some (.int .i64 d) ∧ w'.cell? ⟨w.heap.size, 1, none⟩ = some (.int .i64 what) ∧ w'.cell? ⟨w.heap.size, 2, none⟩ = some (.int .i64 item)) (first | exact ⟨c0, c1, c2⟩ | exact hcell6 | go_keep)
    (first
      | (go_at_call 18; refine (unhide CQ _ HDH.out).mono ?_; rintro e w2 ⟨v1, v2, rfl, hT2, hK2⟩; have hH2 := HDH.out.table (tag' := tagTo tag w1.drew.heap.size (0, 2)) (fun k hk => tagTo_old hk) hT2 HINV.out hK2.q (fun k hk _ => tagTo_new hk); have hcell6 : w2.cell? ⟨w.heap.size, 0, none⟩ = some (.int .i64 d) ∧ w2.cell? ⟨w.heap.size, 1, none⟩ = some (.int .i64 what) ∧ w2.cell? ⟨w.heap.size, 2, none⟩ = some (.int .i64 item) := ⟨(HBX.out _ _ _ hK2).cellS rfl, (HBX.out _ _ _ hK2).cellS rfl, (HBX.out _ _ _ hK2).cellS rfl⟩))
  all_goals
    obtain ⟨hH2, hS2⟩ := hH2
    have hB2 := HBX.out _ _ _ hK2
    have hS2 := (StepS.below (tag := tag) HB00.out.drew).trans hS2
    clear hT2 hcell6 c0 c1 c2
    have e0 := hB2.cellS (i := 0) (v := .int .i64 d) rfl
    have e1 := hB2.cellS (i := 1) (v := .int .i64 what) rfl
    have e2 := hB2.cellS (i := 2) (v := .int .i64 item) rfl
    have hgr2 : L.g < w2.heap.size := hH2.run.lt
    have hbl2 : w.heap.size < w2.heap.size := hB2.lt
    cases is
    · have HR2 := HRUN.out
      rw [if_neg (by simp)] at HR2
      obtain ⟨m, rfl⟩ := avoidE_pos HR2
      have q3 := hH2.cW hd6
      have f3 := hH2.fr (3 + d)
      obtain ⟨r0, r1, r2⟩ := hH2.cO hd6
      have g0 := hH2.fr (10 + d * 3)
      have g1 := hH2.fr (10 + d * 3 + 1)
      have g2 := hH2.fr (10 + d * 3 + 2)
      have hB7 := (hH2.run.put (3 + d) (.bool true)).drew
      rw [q_setW hd6] at hB7
      have hop7 := q_op (way := way) (vH := v1) (vW := v2) (wb := updR (wbS { s with T := T' }) (d : Int) true) (op := L.op) (vB := L.vB) (ab := s.ab) (vT := L.vT) (vV := L.vV) hd6
      have s0 := hB7.cellS hop7.1
      have s1' := hB7.cellS hop7.2.1
      have s2' := hB7.cellS hop7.2.2
      have sf := fun i => hB7.frozen i
      have k0 := sf (10 + d * 3)
      have k1 := sf (10 + d * 3 + 1)
      have k2 := sf (10 + d * 3 + 2)
      have HW := (hH2.below ((Below.refl _ _).drew.drew)).wait hd6 ⟨d, what, item⟩ (w' := ((((w2.setCell ⟨L.g, 3 + d, none⟩ (.bool true)).drew.drew.setCell ⟨L.g, 10 + d * 3, none⟩ (.int .i64 (d : Int))).setCell ⟨L.g, 10 + d * 3 + 1, none⟩ (.int .i64 what)).setCell ⟨L.g, 10 + d * 3 + 2, none⟩ (.int .i64 item))) rfl
      simp only at q3 f3 r0 r1 r2 g0 g1 g2 s0 s1' s2' k0 k1 k2 HW
      have hne1 : w.heap.size ≠ L.g := by omega
      have hne2 : L.g ≠ w.heap.size := by omega
      have hB7b := (hB2.far (p := ⟨L.g, 3 + d, none⟩) hne1 (.bool true)).drew
      have e0' := hB7b.cellS (i := 0) (v := .int .i64 d) rfl
      have e1' := hB7b.cellS (i := 1) (v := .int .i64 what) rfl
      have e2' := hB7b.cellS (i := 2) (v := .int .i64 item) rfl
      have hB8 := ((((hB2.far (p := ⟨L.g, 3 + d, none⟩) hne1 (.bool true)).drew.drew).far (p := ⟨L.g, 10 + d * 3, none⟩) hne1 (.int .i64 (d : Int))).far (p := ⟨L.g, 10 + d * 3 + 1, none⟩) hne1 (.int .i64 what)).far (p := ⟨L.g, 10 + d * 3 + 2, none⟩) hne1 (.int .i64 item)
      have x1 : ¬ 10 + d * 3 = 3 + d := by omega
      have x2 : ¬ 10 + d * 3 + 1 = 3 + d := by omega
      have x3 : ¬ 10 + d * 3 + 2 = 3 + d := by omega
      have x4 : ¬ 3 + d = 10 + d * 3 := by omega
      have x5 : ¬ 3 + d = 10 + d * 3 + 1 := by omega
      have x6 : ¬ 3 + d = 10 + d * 3 + 2 := by omega
      have HWH := Lib.hid HW
      have HB8 := Lib.hid hB8
      have CW := hide (qwhom_any (d : Int) _ HW.1)
      clear HRUN HW hB7 hop7 sf hB7b hB8
      go_wp2_with fail
      go_still_tail 6, (by kernel_rfl)
      (with_reducible show wpList _ _ _ _ _ _)
      go_wp2_with fail
      generalize hw3 : (w2.setCell ⟨L.g, 3 + d, none⟩ (.bool true)).drew = w3 at *
      go_still_tail 7, (by kernel_rfl)
      (with_reducible show wpList _ _ _ _ _ _)
      go_wp2_with fail
      refine (unhide CW).mono ?_
      rintro e w4 ⟨v6, rfl, ho6, hb4⟩
      obtain ⟨hH8, hS8⟩ := HWH.out
      have hB9 := HB8.out
      clear CW HWH HB8
      generalize ((((w3.drew.setCell ⟨L.g, 10 + d * 3, none⟩ (.int .i64 (d : Int))).setCell ⟨L.g, 10 + d * 3 + 1, none⟩ (.int .i64 what)).setCell ⟨L.g, 10 + d * 3 + 2, none⟩ (.int .i64 item))) = w8 at *
      have hl8 : w.heap.size < w8.heap.size := hB9.lt
      have hB4 := hB9.below hb4 hl8
      have hH4 := hH8.below hb4
      have hS4 := ((hS2.trans (StepS.below (Below.refl w2.heap.size w2).drew.drew)).trans hS8).trans (StepS.below hb4)
      have hbx4 : (tagTo tag w1.drew.heap.size (0, 2)) w.heap.size = (0, 20) := by rw [tagTo_old (by exact hg1)]; exact HBOX.out
      obtain ⟨A6, c6, rfl⟩ := own_slice ho6
      have e0 := hB4.cellS (i := 0) (v := .int .i64 d) rfl
      have q0 := hH4.c0
      simp only at q0 hH4
      have HSQ := Lib.hid hS4
      have HBX4 := Lib.hid hbx4
      have HH4 := Lib.hid hH4
      have hwb6 : (whomF T' (d : Int)).length ≤ 6 := whomF_len hH4.tab.inv _
      have HWR := Lib.hid (fun x (hx : x ∈ whomF T' (d : Int)) => whomF_rng hH4.tab.inv hx)
      have HWN := Lib.hid (fun x (hx : x ∈ whomF T' (d : Int)) => whom_ne hx)
      have HM : Hid (m + 1 ≤ m + 1) := Lib.hid (Nat.le_refl _)
      have hgr4 : L.g < w4.heap.size := hH4.run.lt
      clear hH8 hS8 hB9 hS4 hbx4 hH2 hS2 hB2 hK2 s0 s1' s2' k0 k1 k2 e0' e1' e2' q3 f3 r0 r1 r2 g0 g1 g2 e1 e2
      have HR3 := HR2
      unfold runJ at HR2
      by_cases h0 : way = 0
      · subst h0
        rw [if_pos rfl] at HR2
        have CR := hide (qring_any d hd1 hd6 w4 HH4.out)
        simp only at CR HR2
        cases hrg : rngF T' (d : Int)
        · rw [hrg, if_neg (by simp)] at HR2
          rw [hrg] at CR
          injection HR2 with HR2
          clear HR3
          subst HR2
          go_wp2_with fail
          refine (unhide CR).mono ?_
          rintro e w5 ⟨rfl, hb5⟩
          go_wp2
          go_end0
          exact ⟨⟨_, rfl⟩, _, _, _, _, _, _, _, HH4.out.below hb5, HSQ.out.trans (StepS.below hb5)⟩
        · rw [hrg, if_pos rfl] at HR2
          rw [hrg] at CR
          have CA := hide (fun w5 (hb : Below w4.heap.size w4 w5) => hA m (by omega) (d : Int) (by omega) (by omega) _ s' _ _ w5 (HH4.out.below hb) HR2 HLE.out.1 HLE.out.2)
          simp only at CA
          clear HR3 HR2
          go_wp2_with fail
          refine (unhide CR).mono ?_
          rintro e w5 ⟨rfl, hb5⟩
          have e05 := (hB4.below hb5 hB4.lt).cellS (i := 0) (v := .int .i64 d) rfl
          go_wp2_with fail
          refine (unhide CA w5 hb5).mono ?_
          rintro e w9 hP
          obtain ⟨⟨ve, rfl⟩, hP2⟩ := hP.after (HSQ.out.trans (StepS.below hb5)) rfl
          go_wp2
          go_end0
          exact ⟨⟨_, rfl⟩, hP2⟩
      · by_cases h1 : way = 1
        · subst h1
          rw [if_neg (by decide), if_pos rfl] at HR2
          simp only at HR2
          cases hl : whomF T' (d : Int) with
          | nil =>
            rw [hl] at HR2 ho6
            simp only at HR2
            injection HR2 with HR2
            clear HR3
            subst HR2
            simp only [List.length_nil] at ho6
            go_wp2
            go_quiet (fail)
            go_wp2
            go_end0
            exact ⟨⟨_, rfl⟩, _, _, _, _, _, _, _, HH4.out.below (below_drewN (Below.refl _ _) _), HSQ.out.trans (StepS.below (below_drewN (Below.refl _ _) _))⟩
          | cons x r =>
            have hxn := HWN.out x (by rw [hl]; exact List.mem_cons_self)
            rw [hl] at HR2 ho6
            simp only at HR2
            obtain ⟨nr, hnr⟩ : ∃ nr, (x :: r).length = nr := ⟨_, rfl⟩
            have hnr0 : 0 < nr := by rw [← hnr]; simp
            rw [hnr] at ho6
            have hnri : (0 : Int) < (nr : Int) := by omega
            obtain ⟨b, off, x', he, hb, hx, z0⟩ := (rd_own ho6).int (k := 0) hnr0
            cases he
            obtain rfl : x = x' := by simpa using hx
            rw [Nat.add_zero] at z0
            clear hx hnr
            by_cases hdx : (d : Int) < x
            · rw [if_pos hdx] at HR2
              injection HR2 with HR2
              clear HR3
              subst HR2
              have hdx2 : ¬ x < (d : Int) := by omega
              clear hdx
              go_wp2
              go_quiet (fail)
              go_wp2
              go_end0
              exact ⟨⟨_, rfl⟩, _, _, _, _, _, _, _, HH4.out.below (below_drewN (Below.refl _ _) _), HSQ.out.trans (StepS.below (below_drewN (Below.refl _ _) _))⟩
            · rw [if_neg hdx] at HR2
              have hdx2 : x < (d : Int) := by omega
              have CA := hide (fun w5 (hb : Below w4.heap.size w4 w5) => hA m (by omega) (d : Int) (by omega) (by omega) _ s' _ _ w5 (HH4.out.below hb) HR2 HLE.out.1 HLE.out.2)
              simp only at CA
              clear HR3 HR2 hdx
              go_wp2
              go_quiet (fail)
              have e05 := (hB4.below (below_drewN (Below.refl _ _) nq) hB4.lt).cellS (i := 0) (v := .int .i64 d) rfl
              go_wp2_with fail
              refine (unhide CA _ (below_drewN (Below.refl _ _) nq)).mono ?_
              rintro e w9 hP
              obtain ⟨⟨ve, rfl⟩, hP2⟩ := hP.after (HSQ.out.trans (StepS.below (below_drewN (Below.refl _ _) nq))) rfl
              go_wp2
              go_end0
              exact ⟨⟨_, rfl⟩, hP2⟩
        · have h0b : (way == 0) = false := by simpa using h0
          have h1b : (way == 1) = false := by simpa using h1
          have HWAY := Lib.hid (And.intro h0 h1)
          have hst : AvoidQ way lo (m + 1) d s' L.g w tag what item w4 (m + 1) := ⟨_, _, _, _, _, _, _, _, Nat.le_refl _, HR3, HH4.out, HSQ.out, hB4, by rw [HBX4.out]; decide⟩
          clear HR2 HR3 h0 h1 HWR HWN hwb6 ho6 hB4 e0 HH4 hH4 hgr4
          go_wp2
          go_loopw [8] (fun s8 wr => (s8 = .bool true ∧ ∃ m', AvoidQ way lo (m + 1) d s' L.g w tag what item wr m') ∨ (s8 = .bool false ∧ FinQ way lo s' L.g w tag wr)) (fun s8 wr => muA s8 (Classical.epsilon fun m' => AvoidQ way lo (m + 1) d s' L.g w tag what item wr m' ∧ ∀ j, AvoidQ way lo (m + 1) d s' L.g w tag what item wr j → m' ≤ j))
          case atStart => exact .inl ⟨rfl, _, hst⟩
          case round =>
            clear hst
            rcases hrel with ⟨rfl, hex⟩ | ⟨rfl, hfin⟩
            · obtain ⟨j1, j2⟩ := least_spec hex
              clear j2 hex
              generalize (Classical.epsilon fun m' => AvoidQ way lo (m + 1) d s' L.g w tag what item wr m' ∧ ∀ j, AvoidQ way lo (m + 1) d s' L.g w tag what item wr j → m' ≤ j) = m0 at *
              obtain ⟨sA, yH, yW, yT, yV, yB, yo, tag1, hm, hr1, hHq, hSq, hBq, hTq⟩ := j1
              obtain ⟨m1, rfl⟩ := avoidE_pos hr1
              unfold runJ at hr1
              rw [if_neg HWAY.out.1, if_neg HWAY.out.2] at hr1
              have CW := hide (qwhom_any (d : Int) wr hHq)
              have hl6 := whomF_len hHq.tab.inv (d : Int)
              have hrg := Lib.hid (fun x hx => whomF_rng (tx := (d : Int)) (d := x) hHq.tab.inv hx)
              have z0 := hBq.cellS (i := 0) (v := .int .i64 d) rfl
              have hgq : L.g < wr.heap.size := hHq.run.lt
              obtain ⟨E, hE⟩ : ∃ E, whomF sA.T (d : Int) = E := ⟨_, rfl⟩
              rw [hE] at CW hl6 hrg hr1
              obtain ⟨nE, hnE⟩ : ∃ nE, E.length = nE := ⟨_, rfl⟩
              rw [hnE] at CW hl6
              have HNE := Lib.hid hnE
              have HR4 := Lib.hid hr1
              simp only at CW
              clear hE hnE hr1
              go_wp2_with fail
              refine (unhide CW).mono ?_
              rintro e w5 ⟨v, rfl, ho5, hb5⟩
              obtain ⟨A5, c5, rfl⟩ := own_slice ho5
              have hH5 := hHq.below hb5
              have hS5 := hSq.trans (StepS.below (tag := tag1) hb5)
              have hB5 := hBq.below hb5 hBq.lt
              have hd5 := rd_own ho5
              clear CW hHq hSq hBq z0 ho5 hb5 hgq
              go_wp2
              go_loopw [8, 9] (fun s8 s9 wq => (∃ i : Nat, s8 = .bool false ∧ s9 = .int .i64 i ∧ i ≤ nE ∧ Hid (∀ x ∈ E.take i, x ≤ (d : Int)) ∧ QHeap way lo wq sA ⟨L.g, yH, yW, yT, yV, yB, yo⟩ tag1 ∧ StepS w wq tag tag1 ∧ Blk wq w.heap.size 43 [.int .i64 (d : Int), .int .i64 what, .int .i64 item] ∧ Rd wq wq.heap.size 1 A5 nE (cellsI E)) ∨ (∃ i : Nat, s8 = .bool true ∧ s9 = .int .i64 i ∧ i ≤ nE ∧ ∃ m', m' ≤ m1 ∧ AvoidQ way lo (m + 1) d s' L.g w tag what item wq m')) (fun _ s9 _ => nE - (intOf s9).toNat)
              case atStart => exact .inl ⟨0, rfl, rfl, Nat.zero_le _, Lib.hid (fun x hx => by simp at hx), hH5, hS5, hB5, hd5⟩
              case round =>
                clear hH5 hS5 hB5 hd5
                rcases hrel with ⟨i, rfl, rfl, hi, HT, hH5, hS5, hB5, hd5⟩ | ⟨i, rfl, rfl, hi, m', hm', hav⟩
                · by_cases hlt : i < nE
                  · obtain ⟨b, off, x, he, hb, hx, z0⟩ := hd5.int (k := i) hlt
                    cases he
                    have e0 := hB5.cellS (i := 0) (v := .int .i64 d) rfl
                    have hi0 : (0 : Int) ≤ (i : Int) := by omega
                    have hi1 : (i : Int) < (nE : Int) := by omega
                    by_cases hdx : (d : Int) < x
                    · have hfd : E.find? (fun y => decide ((d : Int) < y)) = some x := find_here hx (by simpa using hdx) (fun y hy => by simpa using HT.out y hy)
                      have hr1 := HR4.out
                      rw [hfd] at hr1
                      simp only at hr1
                      cases hq : runJ way m1 (.abort x) sA with
                      | none => rw [hq] at hr1; cases hr1
                      | some sB =>
                      rw [hq] at hr1
                      simp only at hr1
                      have HR5 := Lib.hid hr1
                      have hlenB := runJ_told _ _ _ _ hr1
                      have hxr := hrg.out x (List.mem_of_getElem? hx)
                      have CA := hide (fun w6 (hb : Below wr.heap.size wr w6) => hA m1 (by omega) x (by omega) (by omega) sA sB _ tag1 w6 (hH5.below hb) hq (by have := HLE.out; omega) (by have := HLE.out; omega))
                      simp only at CA
                      have hgt1 : x > (d : Int) := hdx
                      clear hx hfd hr1 hq hlenB hxr
                      go_wp2
                      go_quiet (fail)
                      have hbq := below_drewN (Below.refl wr.heap.size wr) nq
                      have z0q := z0
                      go_wp2_with fail
                      refine (unhide CA _ hbq).mono ?_
                      rintro e w9 ⟨⟨ve, rfl⟩, uH, uW, uT, uV, uB, uo, tag9, hH9, hS9⟩
                      have hB9 := hS9.1.block w.heap.size hB5.lt (by have := hTq; omega)
                      have hI9 : AvoidQ way lo (m + 1) d s' L.g w tag what item w9 m1 := ⟨sB, uH, uW, uT, uV, uB, uo, tag9, by omega, HR5.out, hH9, (hS5.trans (StepS.below hbq)).trans hS9, hB9.trans hB5, by rw [hS9.2 _ hB5.lt]; exact hTq⟩
                      clear CA hH9 hS9 hB9 hH5 hS5 hd5
                      go_wp2
                      go_roundw
                      case rel => exact .inr ⟨i + 1, by first | rfl | go_num, by go_num, by omega, m1, Nat.le_refl _, hI9⟩
                      case measure => simp [intOf]; omega
                    · have HT2 : Hid (∀ y ∈ E.take (i + 1), y ≤ (d : Int)) := Lib.hid (fun y hy => by
                        rw [take_snoc hx] at hy
                        rcases List.mem_append.1 hy with h | h
                        · exact HT.out y h
                        · rw [List.mem_singleton.1 h]; omega)
                      have hngt : ¬ x > (d : Int) := hdx
                      clear hx hdx
                      go_wp2
                      go_quiet (fail)
                      have hbq := below_drewN (Below.refl wr.heap.size wr) nq
                      go_wp2
                      go_roundw
                      case rel => exact .inl ⟨i + 1, by first | rfl | go_num, by go_num, by omega, HT2, hH5.below hbq, hS5.trans (StepS.below hbq), hB5.below hbq hB5.lt, (hd5.below hbq).more hbq.size⟩
                      case measure => simp [intOf]; omega
                  · obtain rfl : i = nE := by omega
                    have hfd : E.find? (fun y => decide ((d : Int) < y)) = none := List.find?_eq_none.2 fun y hy => by
                      simpa using HT.out y (by rw [List.take_of_length_le (by rw [HNE.out]; omega)]; exact hy)
                    have hr1 := HR4.out
                    rw [hfd] at hr1
                    simp only at hr1
                    injection hr1 with hr1
                    subst hr1
                    have hF : FinQ way lo _ L.g w tag wr := ⟨_, _, _, _, _, _, _, hH5, hS5⟩
                    clear hfd
                    go_wp2
                    go_roundw
                    case rel => exact .inr ⟨by first | rfl | go_num, hF⟩
                    case measure => simp [muA]
                · have HLM := (least_spec ⟨m', hav⟩).2 m' hav
                  by_cases hlt : (i : Int) < (nE : Int)
                  · go_wp2
                    go_roundw
                    case rel => exact .inl ⟨by first | rfl | go_num, m', hav⟩
                    case measure => simp only [muA]; omega
                  · go_wp2
                    go_roundw
                    case rel => exact .inl ⟨by first | rfl | go_num, m', hav⟩
                    case measure => simp only [muA]; omega
            · obtain ⟨xH, xW, xT, xV, xB, xo, tag1, hHf, hSf⟩ := hfin
              go_wp2
              go_end0
              exact ⟨⟨_, rfl⟩, _, _, _, _, _, _, _, hHf, hSf⟩
    · have HR2 := HRUN.out
      rw [if_pos rfl] at HR2
      injection HR2 with HR2
      subst HR2
      clear HRUN
      have htl2 : s.told.length + 1 ≤ 1000000 := by have := HLE.out.1; simpa [RSt.tells] using this
      obtain ⟨tl, htl3⟩ : ∃ tl, s.told.length = tl := ⟨_, rfl⟩
      have HTL := Lib.hid htl3
      have q5 := hH2.cT
      simp only at q5
      obtain ⟨AT, cT, hvT⟩ := own_slice hH2.told.1
      simp only at hvT
      rw [htl3] at hvT htl2
      rw [hvT] at q5
      have k5a := (World.cell?_alloc_lt w2 (.cells #[.int .i64 (d : Int), .int .i64 what, .int .i64 item] 43) ⟨L.g, 45, none⟩ hgr2).trans q5
      have hlo2 := hH2.loLe
      have hHA : QHeap way lo (w2.drew.alloc (.cells (cellsH [⟨d, what, item⟩]).toArray 43)) { s with T := T' } _ _ := hH2.below ((Below.refl _ _).drew.alloc (Nat.le_refl _) _)
      have hTO := hHA.told.1
      simp only [hvT] at hTO
      rw [HTL.out] at hTO
      have HA := Lib.hid hHA
      have HVT := Lib.hid hvT
      clear hHA htl3 hvT
      go_wp2_with fail
      go_region_law (first | ((refine step_app2 rfl (.tmp 46) (.tmp 48) _ rfl lo slt_op (v := .slice AT tl cT) (n := tl) (xs := cellsH s.told) (m := 1) (news := cellsH [⟨d, what, item⟩]) rfl hTO rfl (rd_new' _ _ (cellsH [⟨d, what, item⟩]) (by simp) rfl) h9 (by omega) (by simp; omega) ?_; intro v6 w6 hown6 hg6 hat6; obtain ⟨A6, c6, rfl⟩ := own_slice hown6; rw [← HVT.out] at hg6 hat6; have hBk6 := HA.out.run.but (grown_but (P := fun m => m = (0, 6)) hg6 fun k hk => HA.out.told.2 k hk) (by rw [HA.out.mark]; decide); have p0 := (hBk6.cellS (i := 45) (v := L.vT) rfl).trans (congrArg some HVT.out); have p1 := hBk6.frozen 45)))
      all_goals
        have hSA : StepS w2 (w2.drew.alloc (.cells (cellsH [⟨d, what, item⟩]).toArray 43)) _ _ := StepS.below (tag := tagTo tag w1.drew.heap.size (0, 2)) ((Below.refl _ _).drew.alloc (Nat.le_refl _) _)
        obtain ⟨hT, hS⟩ := HA.out.tell (o := ⟨d, what, item⟩) (by rw [HTL.out]) hown6 hg6 hat6
        have hS5 := hS2.trans (hSA.trans hS)
        go_wp2
        go_end0
        exact ⟨⟨_, rfl⟩, _, _, _, _, _, _, _, hT, hS5⟩
end Go.Proofs.YtbccnafdfeempaaGreatDoor

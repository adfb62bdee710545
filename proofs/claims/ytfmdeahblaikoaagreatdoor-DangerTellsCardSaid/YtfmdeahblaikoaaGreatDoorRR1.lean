
/-
  CONTRACT of laneref1.Of: a deal's ops.
  CONTRACTS of laneref1.Done, Play where the ops are right.
  CONTRACTS of the references' laneref1.Odds, Add, Of, place: two ops at odds; an edge put into some that are sorted; a deal's ops; the place of its n-th op.
  CONTRACT of the reference's laneref1.Add: an edge put into some that are sorted, once.
  CONTRACT of lanesame.Edges: whether two lists of edges are the same.
-/
import Derived.Test.YtfmdeahblaikoaaGreatDoorAlikeP
import Derived.Test.YtfmdeahblaikoaaGreatDoorN0
import Derived.Test.YtfmdeahblaikoaaGreatDoorN1
import Derived.Test.YtfmdeahblaikoaaGreatDoorCompE
import Derived.BigQuiet
import Derived.Test.YtfmdeahblaikoaaGreatDoorSortP
import Derived.Test.YtfmdeahblaikoaaGreatDoorM7

namespace Go.Proofs.YtfmdeahblaikoaaGreatDoor
open Go.RowKit

/-! ### A deal's ops. -/
theorem ownL_snoc {h : List HOp} {k : Nat} {o : HOp} (hk : h[k]? = some o) (t : Int) : ownL (h.take (k + 1)) t = if o.tx = t then ownL (h.take k) t ++ [o] else ownL (h.take k) t := by
  rw [takeSnoc hk, ownL_append]
  unfold ownL
  by_cases e : o.tx = t
  · rw [if_pos e, List.filter_cons_of_pos (by simpa using e)]; rfl
  · rw [if_neg e, List.filter_cons_of_neg (by simpa using e)]; simp
end Go.Proofs.YtfmdeahblaikoaaGreatDoor


namespace Go.Proofs.YtfmdeahblaikoaaGreatDoor
open Go.RowKit

theorem filter_snoc {α : Type} (p : α → Bool) {h : List α} {k : Nat} {o : α} (ho : h[k]? = some o) : (h.take (k + 1)).filter p = if p o = true then (h.take k).filter p ++ [o] else (h.take k).filter p := by
  rw [List.take_add_one, ho, List.filter_append]
  cases hp : p o <;> simp [hp]

theorem fst_set (ds : List (Int × Int)) (i : Nat) (d : Int × Int) : cellsI ((ds.set i d).map Prod.fst) = (cellsI (ds.map Prod.fst)).set i (.int .i64 d.1) := by simp [cellsI, List.map_set]
theorem snd_set (ds : List (Int × Int)) (i : Nat) (d : Int × Int) : cellsI ((ds.set i d).map Prod.snd) = (cellsI (ds.map Prod.snd)).set i (.int .i64 d.2) := by simp [cellsI, List.map_set]
theorem snd_same {ds : List (Int × Int)} {i : Nat} {d d' : Int × Int} (h : ds[i]? = some d) (h2 : d'.2 = d.2) : cellsI ((ds.set i d').map Prod.snd) = cellsI (ds.map Prod.snd) := by
  rw [snd_set]; exact set_same (by rw [cellsI, List.getElem?_map, List.getElem?_map, h, h2]; rfl)

theorem rseen_le (l : List HOp) : ∀ (vs seen : List Int) (ds : List (Int × Int)), (playGo vs seen ds l).2.length ≤ seen.length + l.length := by
  induction l with
  | nil => intros; simp [playGo]
  | cons o r ih =>
    intro vs seen ds
    unfold playGo
    split
    · refine Nat.le_trans (ih _ _ _) (by simp; omega)
    · split
      · exact Nat.le_trans (ih _ _ _) (by simp)
      · exact Nat.le_trans (ih _ _ _) (by simp)
theorem rseen_len {h : List HOp} (hk : okH h) : (playF h).2.length ≤ 40 := by
  have h1 := rseen_le (doneL h) (List.replicate 6 0) [] (List.replicate 7 (0, 0))
  have h2 : (doneL h).length ≤ h.length := List.length_filter_le _ _
  have h3 : (playF h).2 = (playGo (List.replicate 6 0) [] (List.replicate 7 (0, 0)) (doneL h)).2 := rfl
  have := okH_len hk
  rw [h3]; simp only [List.length_nil] at h1; omega
end Go.Proofs.YtfmdeahblaikoaaGreatDoor


namespace Go.Proofs.YtfmdeahblaikoaaGreatDoor
open Go.RowKit

/-! ### The place of a deal's n-th op. -/
def placeGo (t : Int) (i : Int) : Int → List HOp → Int
  | _, [] => -1
  | n, o :: r => if o.tx = t then (if n = 0 then i else placeGo t (i + 1) (n - 1) r) else placeGo t (i + 1) n r
def placeF (h : List HOp) (t n : Int) : Int := placeGo t 0 n h
theorem placeGo_step {t i n : Int} {o : HOp} {l r : List HOp} (e : l = o :: r) : placeGo t i n l = if o.tx = t then (if n = 0 then i else placeGo t (i + 1) (n - 1) r) else placeGo t (i + 1) n r := by rw [e, placeGo]
end Go.Proofs.YtfmdeahblaikoaaGreatDoor


namespace Go.Proofs.YtfmdeahblaikoaaGreatDoor
open Go.RowKit

theorem insE_step {x y : Int × Int} {l t : List (Int × Int)} (h : l = y :: t) : insS ltE x l = if ltE y x = true then y :: insS ltE x t else if y = x then y :: t else x :: y :: t := by
  rw [h, insS]
theorem Rd.takeD {w : World} {B n : Nat} {A : Option Addr} {l : List (Int × Int)} (h : Rd w B 2 A n (dcells l)) {k : Nat} (hk : k ≤ n) : Rd w B 2 A k (dcells (l.take k)) := by
  refine ⟨by rw [dcells_length, List.length_take, h.dlen]; omega, fun h0 => ?_⟩
  obtain ⟨b, off, hA, hb, hc⟩ := h.2 (by omega)
  refine ⟨b, off, hA, hb, fun j u hu => hc j u ?_⟩
  rw [← dcells_take, List.getElem?_take] at hu
  split at hu
  · exact hu
  · cases hu
theorem Rd.dropD {w : World} {B n b off : Nat} {l : List (Int × Int)} (h : Rd w B 2 (some ⟨b, off, none⟩) n (dcells l)) {k : Nat} (hk : k < n) : Rd w B 2 (some ⟨b, off + k * 2, none⟩) (n - k) (dcells (l.drop k)) := by
  refine ⟨by rw [dcells_length, List.length_drop, h.dlen], fun h0 => ?_⟩
  obtain ⟨b', off', hA, hb, hc⟩ := h.2 (by omega)
  cases hA
  refine ⟨b, off + k * 2, rfl, hb, fun j u hu => ?_⟩
  have e : (dcells l)[k * 2 + j]? = some u := by
    have h1 : dcells l = dcells (l.take k) ++ dcells (l.drop k) := by rw [← dcells_append, List.take_append_drop]
    rw [h1, List.getElem?_append_right (by rw [dcells_length, List.length_take, h.dlen]; omega)]
    rw [dcells_length, List.length_take, h.dlen, Nat.min_eq_left (by omega), Nat.add_sub_cancel_left]
    exact hu
  have := hc _ u e
  rwa [Nat.add_assoc]
theorem own_cap2 {w : World} {base : Nat} {e : TypeId} {size : Nat} {A : Option Addr} {n c : Nat} {xs : List Value} (h : w.ownsRow base e size (.slice A n c) n xs) : n ≤ c := by
  rcases h.2 with ⟨hv, h0⟩ | ⟨_, _, _, hv, _, _, hnc, _⟩
  · omega
  · injection hv with _ _ hc; omega
set_option maxRecDepth 100000 in
set_option maxHeartbeats 8000000 in
theorem radd_any (A : Option Addr) (n c : Nat) (l : List (Int × Int)) (x1 x2 : Int) (w : World) (hr : Rd w w.heap.size 2 A n (dcells l)) (hm : n ≤ 1000000) (hcap : n ≤ c) :
    Calls Tryz.prog 18 #[.slice A n c, .agg #[.int .i64 x1, .int .i64 x2]] w fun e w' => ∃ A' n' c', e = .returned (.slice A' n' c') ∧ n' ≤ c' ∧ Rd w' w'.heap.size 2 A' n' (dcells (insS ltE (x1, x2) l)) ∧ n' ≤ n + 1 ∧ Below w.heap.size w w' := by
  have HL := Lib.hid hr.dlen
  have HI0 : Hid (insS ltE (x1, x2) l = l.take 0 ++ insS ltE (x1, x2) (l.drop 0)) := Lib.hid (by simp)
  have hB0 := Blk.new w 54 [.int .i64 x1, .int .i64 x2]
  have hbw0 : Below w.heap.size w (w.alloc (.cells #[.int .i64 x1, .int .i64 x2] 54)) := (Below.refl _ _).alloc (Nat.le_refl _) _
  have HRd := hide (fun w1 (hb : Below w.heap.size w w1) => hr.below hb)
  go_enter Tryz.func18, Tryz.ntmps18
  go_wp2
  go_loopw [5] (fun s5 wr => ∃ k : Nat, k ≤ n ∧ s5 = .int .i64 k ∧ Hid (insS ltE (x1, x2) l = l.take k ++ insS ltE (x1, x2) (l.drop k)) ∧ Blk wr w.heap.size 54 [.int .i64 x1, .int .i64 x2] ∧ Below w.heap.size w wr) (fun s5 _ => n - (intOf s5).toNat)
  case atStart => exact ⟨0, Nat.zero_le _, rfl, HI0, hB0, hbw0⟩
  case round =>
    clear hB0 hbw0 HI0
    obtain ⟨k, hk, rfl, HE, hB, hbw⟩ := hrel
    have b0 := hB.cellS (i := 0) (v := .int .i64 x1) rfl
    have b1 := hB.cellS (i := 1) (v := .int .i64 x2) rfl
    have hBl := hB.lt
    have HB2 := hide (fun q => (show Blk (wr.drewN q) w.heap.size 54 [.int .i64 x1, .int .i64 x2] from hB))
    have HX2 := hide (fun q => below_drewN hbw q)
    by_cases hlt : k < n
    · obtain ⟨b, off, y, he, hb, ho, c0, c1⟩ := (unhide HRd wr hbw).pr (k := k) hlt
      cases he
      have HS := Lib.hid (insE_step (x := (x1, x2)) (drop_at ho))
      have HT := Lib.hid (tkSnoc ho)
      have HD := Lib.hid (drop_at ho)
      clear ho
      obtain ⟨y1, y2⟩ := y
      simp only at c0 c1
      have j0 : (0 : Int) ≤ (k : Int) := by omega
      have j1 : (k : Int) < (n : Int) := by omega
      have j2 : decide (k < n) = true := by simpa using hlt
      by_cases hle : ltE (y1, y2) (x1, x2) = true
      · have HE2 : Hid (insS ltE (x1, x2) l = l.take (k + 1) ++ insS ltE (x1, x2) (l.drop (k + 1))) := Lib.hid (by rw [HE.out, HS.out, if_pos hle, HT.out]; simp)
        clear HE HS HT HD
        by_cases h1 : y1 < x1
        · have t1 : decide (y1 < x1) = true := by simpa using h1
          clear hle h1
          go_wp2
          go_quiet (fail)
          have hB2 := unhide HB2 nq
          have hbx2 := unhide HX2 nq
          go_wp2
          go_roundw
          case rel => exact ⟨k + 1, by omega, by go_num, HE2, hB2, hbx2⟩
          case measure => simp [intOf]; omega
        · have h2 : y1 = x1 ∧ y2 < x2 := by unfold ltE at hle; have := of_decide_eq_true hle; omega
          obtain ⟨rfl, h3⟩ := h2
          have t1 : decide (y1 < y1) = false := by simp
          have t2 : (y1 == y1) = true := by simp
          have t3 : decide (y2 < x2) = true := by simpa using h3
          clear hle h1 h3
          go_wp2
          go_quiet (fail)
          have hB2 := unhide HB2 nq
          have hbx2 := unhide HX2 nq
          go_wp2
          go_roundw
          case rel => exact ⟨k + 1, by omega, by go_num, HE2, hB2, hbx2⟩
          case measure => simp [intOf]; omega
      · by_cases hxy : (y1, y2) = (x1, x2)
        · have HE2 : Hid (insS ltE (x1, x2) l = l) := Lib.hid (by rw [HE.out, HS.out, if_neg hle, if_pos hxy, ← HD.out, List.take_append_drop])
          cases hxy
          have t1 : decide (x1 < x1) = false := by simp
          have t2 : (x1 == x1) = true := by simp
          have t3 : decide (x2 < x2) = false := by simp
          clear HE HS HT HD hle
          go_wp2
          go_quiet (fail)
          have hbx2 := unhide HX2 nq
          generalize nq = q1 at *
          go_wp2
          go_quiet (fail)
          have hbx3 := below_drewN hbx2 nq
          go_wp2
          go_ret
          exact ⟨_, n, c, rfl, hcap, by rw [HE2.out]; exact (unhide HRd _ hbx3).more hbx3.size, by omega, hbx3⟩
        · have HI : Hid (insS ltE (x1, x2) l = l.take k ++ ([(x1, x2)] ++ l.drop k)) := Lib.hid (by rw [HE.out, HS.out, if_neg hle, if_neg hxy, ← HD.out]; rfl)
          have hck : (c == k) = false := by simp; omega
          have t4 : ¬ (y1 < x1 ∨ y1 = x1 ∧ y2 < x2) := by unfold ltE at hle; simpa using hle
          have hxy2 : ¬ (y1 = x1 ∧ y2 = x2) := fun h => hxy (by rw [h.1, h.2])
          clear HE HS HT HD hle hxy
          by_cases g1 : y1 = x1 <;> by_cases g2 : y2 = x2
          · exact absurd ⟨g1, g2⟩ hxy2
          · replace g1 := g1.symm
            subst g1
            have t1 : decide (x1 < x1) = false := by simp
            have t2 : (x1 == x1) = true := by simp
            have t3 : decide (y2 < x2) = false := by simp; omega
            clear hxy2 t4
            go_wp2
            go_quiet (fail)
            have hB2 := unhide HB2 nq
            have hbx2 := unhide HX2 nq
            generalize nq = q1 at *
            have HB3 := hide (fun q => (show Blk ((wr.drewN q1).drewN q) w.heap.size 54 [.int .i64 x1, .int .i64 x2] from hB2))
            have HX3 := hide (fun q => below_drewN hbx2 q)
            go_wp2
            go_quiet (fail)
            have hB3 := unhide HB3 nq
            have hbx3 := unhide HX3 nq
            generalize (wr.drewN q1).drewN nq = wb at *
            have hTK := (unhide HRd wb hbx3).takeD (k := k) (by omega)
            have hz3 := hB3.lt
            clear HB2 HX2 HB3 HX3 hB2 hbx2 hB hbw b0 b1 hBl
            go_wp2_with (at_builtin; first
              | (refine wpList_app rfl (.tmp 56) (.tmp 59) _ rfl (w.heap.size + 1) slt_edge (n := 0) (xs := []) (m := k) (news := dcells (l.take k)) rfl (World.ownsRow_nil _ _ _ _) rfl hTK (oneD _) (by omega) (by omega) ?_; intro v5 w5 hown5 hg5 hb5 hat5 hne5; (rw [Nat.zero_add, List.nil_append] at hown5); obtain ⟨A5, c5, rfl⟩ := own_slice hown5; have e5 := hB3.below hb5 (by omega); have x0 := e5.cellS (i := 0) (v := .int .i64 x1) rfl; have x1' := e5.cellS (i := 1) (v := .int .i64 x2) rfl; have hbx5 := hbx3.trans (hb5.mono (by omega)); have hz5 := hb5.size)
              | (refine wpList_app rfl (.tmp 61) (.tmp 63) _ rfl (w.heap.size + 1) slt_edge (n := k) (xs := dcells (l.take k)) (m := 1) (news := dcells [(x1, x2)]) rfl (own_alloc hown5 _) rfl (rd_new' _ _ (dcells [(x1, x2)]) (by simp) rfl) (oneD _) (by omega) (by simp; omega) ?_; intro v6 w6 hown6 hg6 hb6 hat6 hne6; obtain ⟨A6, c6, rfl⟩ := own_slice hown6; have hbx6 := (hbx5.alloc hbx5.size (.cells (dcells [(x1, x2)]).toArray 54)).trans (hb6.mono (by omega)); (rw [← dcells_append] at hown6); have hz6 := hb6.size; have hz6' : w.heap.size + 1 ≤ w6.heap.size := (by simp at hz6; omega); have hTD := (unhide HRd w6 hbx6).dropD (k := k) hlt)
              | (refine wpList_app rfl (.tmp 65) (.tmp 68) _ rfl (w.heap.size + 1) slt_edge (n := k + 1) (xs := dcells (l.take k ++ [(x1, x2)])) (m := n - k) (news := dcells (l.drop k)) rfl hown6 rfl hTD (oneD _) (by omega) hz6' ?_; intro v7 w7 hown7 hg7 hb7 hat7 hne7))
            rw [← dcells_append, List.append_assoc] at hown7
            have hbx7 := hbx6.trans (hb7.mono (by omega))
            obtain ⟨A7, c7, rfl⟩ := own_slice hown7
            have hcp7 : k + 1 + (n - k) ≤ c7 := own_cap2 hown7
            have hd7 := rd_own hown7
            go_wp2
            go_ret
            exact ⟨_, _, _, rfl, hcp7, by rw [HI.out]; exact hd7, by omega, hbx7⟩
          · replace g2 := g2.symm
            subst g2
            have t1 : decide (y1 < x1) = false := by simp; omega
            have t2 : (y1 == x1) = false := by simpa using g1
            clear hxy2 t4
            go_wp2
            go_quiet (fail)
            have hB2 := unhide HB2 nq
            have hbx2 := unhide HX2 nq
            generalize nq = q1 at *
            have HB3 := hide (fun q => (show Blk ((wr.drewN q1).drewN q) w.heap.size 54 [.int .i64 x1, .int .i64 x2] from hB2))
            have HX3 := hide (fun q => below_drewN hbx2 q)
            go_wp2
            go_quiet (fail)
            have hB3 := unhide HB3 nq
            have hbx3 := unhide HX3 nq
            generalize (wr.drewN q1).drewN nq = wb at *
            have hTK := (unhide HRd wb hbx3).takeD (k := k) (by omega)
            have hz3 := hB3.lt
            clear HB2 HX2 HB3 HX3 hB2 hbx2 hB hbw b0 b1 hBl
            go_wp2_with (at_builtin; first
              | (refine wpList_app rfl (.tmp 56) (.tmp 59) _ rfl (w.heap.size + 1) slt_edge (n := 0) (xs := []) (m := k) (news := dcells (l.take k)) rfl (World.ownsRow_nil _ _ _ _) rfl hTK (oneD _) (by omega) (by omega) ?_; intro v5 w5 hown5 hg5 hb5 hat5 hne5; (rw [Nat.zero_add, List.nil_append] at hown5); obtain ⟨A5, c5, rfl⟩ := own_slice hown5; have e5 := hB3.below hb5 (by omega); have x0 := e5.cellS (i := 0) (v := .int .i64 x1) rfl; have x1' := e5.cellS (i := 1) (v := .int .i64 x2) rfl; have hbx5 := hbx3.trans (hb5.mono (by omega)); have hz5 := hb5.size)
              | (refine wpList_app rfl (.tmp 61) (.tmp 63) _ rfl (w.heap.size + 1) slt_edge (n := k) (xs := dcells (l.take k)) (m := 1) (news := dcells [(x1, x2)]) rfl (own_alloc hown5 _) rfl (rd_new' _ _ (dcells [(x1, x2)]) (by simp) rfl) (oneD _) (by omega) (by simp; omega) ?_; intro v6 w6 hown6 hg6 hb6 hat6 hne6; obtain ⟨A6, c6, rfl⟩ := own_slice hown6; have hbx6 := (hbx5.alloc hbx5.size (.cells (dcells [(x1, x2)]).toArray 54)).trans (hb6.mono (by omega)); (rw [← dcells_append] at hown6); have hz6 := hb6.size; have hz6' : w.heap.size + 1 ≤ w6.heap.size := (by simp at hz6; omega); have hTD := (unhide HRd w6 hbx6).dropD (k := k) hlt)
              | (refine wpList_app rfl (.tmp 65) (.tmp 68) _ rfl (w.heap.size + 1) slt_edge (n := k + 1) (xs := dcells (l.take k ++ [(x1, x2)])) (m := n - k) (news := dcells (l.drop k)) rfl hown6 rfl hTD (oneD _) (by omega) hz6' ?_; intro v7 w7 hown7 hg7 hb7 hat7 hne7))
            rw [← dcells_append, List.append_assoc] at hown7
            have hbx7 := hbx6.trans (hb7.mono (by omega))
            obtain ⟨A7, c7, rfl⟩ := own_slice hown7
            have hcp7 : k + 1 + (n - k) ≤ c7 := own_cap2 hown7
            have hd7 := rd_own hown7
            go_wp2
            go_ret
            exact ⟨_, _, _, rfl, hcp7, by rw [HI.out]; exact hd7, by omega, hbx7⟩
          · have t1 : decide (y1 < x1) = false := by simp; omega
            have t2 : (y1 == x1) = false := by simpa using g1
            clear hxy2 t4
            go_wp2
            go_quiet (fail)
            have hB2 := unhide HB2 nq
            have hbx2 := unhide HX2 nq
            generalize nq = q1 at *
            have HB3 := hide (fun q => (show Blk ((wr.drewN q1).drewN q) w.heap.size 54 [.int .i64 x1, .int .i64 x2] from hB2))
            have HX3 := hide (fun q => below_drewN hbx2 q)
            go_wp2
            go_quiet (fail)
            have hB3 := unhide HB3 nq
            have hbx3 := unhide HX3 nq
            generalize (wr.drewN q1).drewN nq = wb at *
            have hTK := (unhide HRd wb hbx3).takeD (k := k) (by omega)
            have hz3 := hB3.lt
            clear HB2 HX2 HB3 HX3 hB2 hbx2 hB hbw b0 b1 hBl
            go_wp2_with (at_builtin; first
              | (refine wpList_app rfl (.tmp 56) (.tmp 59) _ rfl (w.heap.size + 1) slt_edge (n := 0) (xs := []) (m := k) (news := dcells (l.take k)) rfl (World.ownsRow_nil _ _ _ _) rfl hTK (oneD _) (by omega) (by omega) ?_; intro v5 w5 hown5 hg5 hb5 hat5 hne5; (rw [Nat.zero_add, List.nil_append] at hown5); obtain ⟨A5, c5, rfl⟩ := own_slice hown5; have e5 := hB3.below hb5 (by omega); have x0 := e5.cellS (i := 0) (v := .int .i64 x1) rfl; have x1' := e5.cellS (i := 1) (v := .int .i64 x2) rfl; have hbx5 := hbx3.trans (hb5.mono (by omega)); have hz5 := hb5.size)
              | (refine wpList_app rfl (.tmp 61) (.tmp 63) _ rfl (w.heap.size + 1) slt_edge (n := k) (xs := dcells (l.take k)) (m := 1) (news := dcells [(x1, x2)]) rfl (own_alloc hown5 _) rfl (rd_new' _ _ (dcells [(x1, x2)]) (by simp) rfl) (oneD _) (by omega) (by simp; omega) ?_; intro v6 w6 hown6 hg6 hb6 hat6 hne6; obtain ⟨A6, c6, rfl⟩ := own_slice hown6; have hbx6 := (hbx5.alloc hbx5.size (.cells (dcells [(x1, x2)]).toArray 54)).trans (hb6.mono (by omega)); (rw [← dcells_append] at hown6); have hz6 := hb6.size; have hz6' : w.heap.size + 1 ≤ w6.heap.size := (by simp at hz6; omega); have hTD := (unhide HRd w6 hbx6).dropD (k := k) hlt)
              | (refine wpList_app rfl (.tmp 65) (.tmp 68) _ rfl (w.heap.size + 1) slt_edge (n := k + 1) (xs := dcells (l.take k ++ [(x1, x2)])) (m := n - k) (news := dcells (l.drop k)) rfl hown6 rfl hTD (oneD _) (by omega) hz6' ?_; intro v7 w7 hown7 hg7 hb7 hat7 hne7))
            rw [← dcells_append, List.append_assoc] at hown7
            have hbx7 := hbx6.trans (hb7.mono (by omega))
            obtain ⟨A7, c7, rfl⟩ := own_slice hown7
            have hcp7 : k + 1 + (n - k) ≤ c7 := own_cap2 hown7
            have hd7 := rd_own hown7
            go_wp2
            go_ret
            exact ⟨_, _, _, rfl, hcp7, by rw [HI.out]; exact hd7, by omega, hbx7⟩
    · obtain rfl : n = k := by omega
      have HI : Hid (insS ltE (x1, x2) l = l.take n ++ ([(x1, x2)] ++ [])) := Lib.hid (by rw [HE.out, drop_end (by rw [HL.out]; omega)]; rfl)
      have j2 : decide (n < n) = false := by simp
      clear HE hlt
      by_cases hcn : c = n
      all_goals
        have hck : (c == n) = decide (c = n) := rfl
        go_wp2
        go_quiet (fail)
        have hB2 := unhide HB2 nq
        have hbx2 := unhide HX2 nq
        generalize nq = q1 at *
        have HB3 := hide (fun q => (show Blk ((wr.drewN q1).drewN q) w.heap.size 54 [.int .i64 x1, .int .i64 x2] from hB2))
        have HX3 := hide (fun q => below_drewN hbx2 q)
        go_wp2
        go_quiet (fail)
        have hB3 := unhide HB3 nq
        have hbx3 := unhide HX3 nq
        generalize (wr.drewN q1).drewN nq = wb at *
        have hTK := (unhide HRd wb hbx3).takeD (k := n) (Nat.le_refl _)
        have hz3 := hB3.lt
        clear HB2 HX2 HB3 HX3 hB2 hbx2 hB hbw b0 b1 hBl
        go_wp2_with (at_builtin; first
          | (refine wpList_app rfl (.tmp 56) (.tmp 59) _ rfl (w.heap.size + 1) slt_edge (n := 0) (xs := []) (m := n) (news := dcells (l.take n)) rfl (World.ownsRow_nil _ _ _ _) rfl hTK (oneD _) (by omega) (by omega) ?_; intro v5 w5 hown5 hg5 hb5 hat5 hne5; (rw [Nat.zero_add, List.nil_append] at hown5); obtain ⟨A5, c5, rfl⟩ := own_slice hown5; have e5 := hB3.below hb5 (by omega); have x0 := e5.cellS (i := 0) (v := .int .i64 x1) rfl; have x1' := e5.cellS (i := 1) (v := .int .i64 x2) rfl; have hbx5 := hbx3.trans (hb5.mono (by omega)); have hz5 := hb5.size)
          | (refine wpList_app rfl (.tmp 61) (.tmp 63) _ rfl (w.heap.size + 1) slt_edge (n := n) (xs := dcells (l.take n)) (m := 1) (news := dcells [(x1, x2)]) rfl (own_alloc hown5 _) rfl (rd_new' _ _ (dcells [(x1, x2)]) (by simp) rfl) (oneD _) (by omega) (by simp; omega) ?_; intro v6 w6 hown6 hg6 hb6 hat6 hne6; obtain ⟨A6, c6, rfl⟩ := own_slice hown6; have hbx6 := (hbx5.alloc hbx5.size (.cells (dcells [(x1, x2)]).toArray 54)).trans (hb6.mono (by omega)); (rw [← dcells_append] at hown6); have hz6 := hb6.size; have hz6' : w.heap.size + 1 ≤ w6.heap.size := (by simp at hz6; omega))
          | (refine wpList_app rfl (.tmp 65) (.tmp 68) _ rfl (w.heap.size + 1) slt_edge (n := n + 1) (xs := dcells (l.take n ++ [(x1, x2)])) (B := 0) (m := 0) (news := dcells []) rfl hown6 rfl Rd.nil (oneD _) (by omega) hz6' ?_; intro v7 w7 hown7 hg7 hb7 hat7 hne7))
        rw [← dcells_append, List.append_assoc] at hown7
        have hbx7 := hbx6.trans (hb7.mono (by omega))
        obtain ⟨A7, c7, rfl⟩ := own_slice hown7
        have hcp7 : n + 1 + 0 ≤ c7 := own_cap2 hown7
        have hd7 := rd_own hown7
        go_wp2
        go_ret
        exact ⟨_, _, _, rfl, hcp7, by rw [HI.out]; exact hd7, by omega, hbx7⟩
end Go.Proofs.YtfmdeahblaikoaaGreatDoor


namespace Go.Proofs.YtfmdeahblaikoaaGreatDoor
open Go.RowKit

set_option maxHeartbeats 400000 in
theorem edgesS_any (A B : Option Addr) (n m c d : Nat) (xs ys : List (Int × Int)) (w : World) (ha : Rd w w.heap.size 2 A n (dcells xs)) (hb : Rd w w.heap.size 2 B m (dcells ys)) (hm : n ≤ 1000000000000) :
    Calls Tryz.prog 10 #[.slice A n c, .slice B m d] w fun e w' => e = .returned (.bool (decide (xs = ys))) ∧ Below w.heap.size w w' := by
  have hl1 := ha.dlen
  have hl2 := hb.dlen
  by_cases hnm : n = m
  · have hnm2 : ((n : Int) != (m : Int)) = false := by simp [hnm]
    have HN := Lib.hid hnm
    have HL := Lib.hid (And.intro hl1 hl2)
    have hle : n ≤ m := by omega
    clear hnm hl1 hl2
    go_enter Tryz.func10, Tryz.ntmps10
    go_wp2
    clear hnm2
    go_loopw [5] (fun i wr => ∃ k : Nat, k ≤ n ∧ i = .int .i64 k ∧ Hid (xs.take k = ys.take k) ∧ Below w.heap.size w wr) (fun i _ => n - (intOf i).toNat)
    case atStart => exact ⟨0, Nat.zero_le _, rfl, rfl, Below.refl _ _⟩
    case round =>
      obtain ⟨k, hk, rfl, HE, hbw⟩ := hrel
      by_cases hlt : k < n
      · obtain ⟨b1, o1, x, he, _, hx, c1, c2⟩ := (ha.below hbw).pr (k := k) (by omega)
        cases he
        obtain ⟨b2, o2, y, he, _, hy, d1, d2⟩ := (hb.below hbw).pr (k := k) (by omega)
        cases he
        have HT := Lib.hid (take_same HE.out hx hy)
        clear hx hy
        have hlm : k < m := by omega
        by_cases hxy : x = y
        · have HE2 := Lib.hid (HT.out.1 hxy)
          subst hxy
          go_wp2
          go_quiet (fail)
          go_wp2
          go_roundw
          case rel => exact ⟨k + 1, by omega, by go_num, HE2, below_drewN hbw _⟩
          case measure => simp [intOf]; omega
        · have HE2 : Hid (decide (xs = ys) = false) := Lib.hid (decide_eq_false (HT.out.2 hxy))
          obtain ⟨x1, x2⟩ := x
          obtain ⟨y1, y2⟩ := y
          have hxy2 : ¬ (x1 = y1 ∧ x2 = y2) := fun h => hxy (by rw [h.1, h.2])
          clear hxy
          by_cases g1 : x1 = y1 <;> by_cases g2 : x2 = y2
          · exact absurd ⟨g1, g2⟩ hxy2
          all_goals
            try subst g1
            try subst g2
            clear hxy2
            go_wp2
            go_quiet (fail)
            go_wp2
            go_ret
            exact ⟨ret_bool HE2.out.symm, below_drewN hbw _⟩
      · have HE2 : Hid (decide (xs = ys) = true) := Lib.hid (decide_eq_true (by
          have := HE.out
          rwa [List.take_of_length_le (by rw [HL.out.1]; omega), List.take_of_length_le (by rw [HL.out.2, ← HN.out]; omega)] at this))
        go_wp2
        go_ret
        exact ⟨ret_bool HE2.out.symm, hbw⟩
  · have HE2 : Hid (decide (xs = ys) = false) := Lib.hid (decide_eq_false (by rintro rfl; omega))
    have hnm2 : ((n : Int) != (m : Int)) = true := by simp; omega
    go_enter Tryz.func10, Tryz.ntmps10
    go_wp2
    go_ret
    exact ⟨ret_bool HE2.out.symm, Below.refl _ _⟩
end Go.Proofs.YtfmdeahblaikoaaGreatDoor

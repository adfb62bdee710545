
/-
  CONTRACTS of laneref1.Done, Play where the ops are right.
-/
import Derived.Test.YtoboecppilmnnaaDoorRef
namespace Go.Proofs.YtoboecppilmnnaaDoor
open Go.RowKit

theorem filter_snoc {α : Type} (p : α → Bool) {h : List α} {k : Nat} {o : α} (ho : h[k]? = some o) : (h.take (k + 1)).filter p = if p o = true then (h.take k).filter p ++ [o] else (h.take k).filter p := by
  rw [List.take_add_one, ho, List.filter_append]
  cases hp : p o <;> simp [hp]

set_option maxHeartbeats 1000000 in
theorem rdone_any (A : Option Addr) (n cap : Nat) (h : List HOp) (w : World) (hr : Rd w w.heap.size 3 A n (cellsH h)) (hok : okH h) :
    Calls Tryd.prog 50 #[.slice A n cap] w fun e w' => ∃ A' m c', e = .returned (.slice A' m c') ∧ w'.ownsRow w.heap.size 24 3 (.slice A' m c') m (cellsH (doneL h)) ∧ Below w.heap.size w w' := by
  have hl := hr.hlen
  have hm : n ≤ 40 := by rw [← hl]; exact okH_len hok
  have HD := Lib.hid (doneL_eq hok)
  have HTK : Hid (h.take n = h) := Lib.hid (List.take_of_length_le (by omega))
  clear hl hok
  go_enter Tryd.func50, Tryd.ntmps50
  go_wp2
  go_loopw [3, 4] (fun s3 s4 wr => ∃ k m : Nat, k ≤ n ∧ s4 = .int .i64 k ∧ wr.ownsRow w.heap.size 24 3 s3 m (cellsH ((h.take k).filter fun o => decide (endGo o.tx h = 3))) ∧ m ≤ k ∧ Below w.heap.size w wr) (fun _ s4 _ => n - (intOf s4).toNat)
  case atStart => exact ⟨0, 0, Nat.zero_le _, rfl, World.ownsRow_nil _ _ _ _, Nat.zero_le _, Below.refl _ _⟩
  case round =>
    obtain ⟨k, m, hk, rfl, ho3, hmk, hbw⟩ := hrel
    obtain ⟨A3, c3, rfl⟩ := own_slice ho3
    have hz := hbw.size
    by_cases hlt : k < n
    · have hrw := (hr.below hbw).more hz
      obtain ⟨b, off, o, he, hb, ho, c0, c1, c2⟩ := hrw.op (k := k) hlt
      cases he
      have HF := Lib.hid (filter_snoc (fun o => decide (endGo o.tx h = 3)) ho)
      clear ho
      obtain ⟨tx, what, item⟩ := o
      by_cases he : endGo tx h = 3
      · have HE := Lib.hid he
        have HF2 : Hid ((h.take (k + 1)).filter (fun o => decide (endGo o.tx h = 3)) = (h.take k).filter (fun o => decide (endGo o.tx h = 3)) ++ [⟨tx, what, item⟩]) := Lib.hid (by rw [HF.out]; simp [he])
        clear he
        go_wp2_with fail
        refine (end_any _ n cap h tx n wr _ hrw (Nat.le_refl _) (by omega)).mono ?_
        rw [HTK.out, HE.out]
        rintro e w1 ⟨rfl, rfl⟩
        go_wp2_with (at_builtin; (refine wpList_app rfl (.tmp 21) (.tmp 26) _ rfl w.heap.size slt_op (n := m) (xs := cellsH ((h.take k).filter fun o => decide (endGo o.tx h = 3))) (m := 1) (news := cellsH [⟨tx, what, item⟩]) rfl (own_alloc ho3 _) rfl (rd_new' _ _ (cellsH [⟨tx, what, item⟩]) (by simp) rfl) (oneH _) (by omega) (by simp; omega) ?_; intro v5 w5 hown5 hg5 hb5 hat5 hne5))
        have hbw5 : Below w.heap.size w w5 := (hbw.alloc hz _).trans hb5
        rw [← cellsH_append, ← HF2.out] at hown5
        go_roundw
        case rel => exact ⟨k + 1, m + 1, by omega, by go_num, hown5, by omega, hbw5⟩
        case measure => simp [intOf]; omega
      · have HF2 : Hid ((h.take (k + 1)).filter (fun o => decide (endGo o.tx h = 3)) = (h.take k).filter (fun o => decide (endGo o.tx h = 3))) := Lib.hid (by rw [HF.out]; simp [he])
        have he2 : (endGo tx h == 3) = false := by simpa using he
        clear he
        go_wp2_with fail
        refine (end_any _ n cap h tx n wr _ hrw (Nat.le_refl _) (by omega)).mono ?_
        rw [HTK.out]
        rintro e w1 ⟨rfl, rfl⟩
        go_wp2
        go_roundw
        case rel => exact ⟨k + 1, m, by omega, by go_num, by rw [HF2.out]; exact ho3, by omega, hbw⟩
        case measure => simp [intOf]; omega
    · have HF : Hid (wr.ownsRow w.heap.size 24 3 (.slice A3 m c3) m (cellsH (doneL h))) := Lib.hid (by
        rw [HD.out]
        have hkn : k = n := by omega
        rw [hkn, HTK.out] at ho3; exact ho3)
      clear ho3
      go_wp2
      go_ret
      exact ⟨A3, m, c3, rfl, HF.out, hbw⟩

theorem fst_set (ds : List (Int × Int)) (i : Nat) (d : Int × Int) : cellsI ((ds.set i d).map Prod.fst) = (cellsI (ds.map Prod.fst)).set i (.int .i64 d.1) := by simp [cellsI, List.map_set]
theorem snd_set (ds : List (Int × Int)) (i : Nat) (d : Int × Int) : cellsI ((ds.set i d).map Prod.snd) = (cellsI (ds.map Prod.snd)).set i (.int .i64 d.2) := by simp [cellsI, List.map_set]
theorem snd_same {ds : List (Int × Int)} {i : Nat} {d d' : Int × Int} (h : ds[i]? = some d) (h2 : d'.2 = d.2) : cellsI ((ds.set i d').map Prod.snd) = cellsI (ds.map Prod.snd) := by
  rw [snd_set]; exact set_same (by rw [cellsI, List.getElem?_map, List.getElem?_map, h, h2]; rfl)

set_option maxRecDepth 100000 in
set_option maxHeartbeats 4000000 in
theorem rplay_any (A : Option Addr) (n cap : Nat) (h : List HOp) (w : World) (hr : Rd w w.heap.size 3 A n (cellsH h)) (hok : okH h) :
    Calls Tryd.prog 28 #[.slice A n cap] w fun e w' => ∃ v1 v2 m, e = .returned (.tuple #[v1, v2]) ∧ w'.ownsRow w.heap.size 3 1 v1 6 (cellsI (playF h).1) ∧ w'.ownsRow w.heap.size 3 1 v2 m (cellsI (playF h).2) ∧ Below w.heap.size w w' := by
  have HR := Lib.hid (okH_right hok)
  have HOK := Lib.hid hok
  have DC := hide (rdone_any A n cap h w hr hok)
  have hm40 : h.length ≤ 40 := okH_len hok
  clear hok
  have hmk := make6
  go_enter Tryd.func28, Tryd.ntmps28
  go_wp2_with fail
  refine Calls.mono (unhide DC) ?_
  rintro e w1 ⟨A1, m1, c1, rfl, hown1, hb1⟩
  have hz1 := hb1.size
  have hR1 := rd_own hown1
  have hL1 : m1 ≤ 40 := by
    have := hR1.hlen
    have h2 : (doneL h).length ≤ h.length := List.length_filter_le _ _
    omega
  have HLM := Lib.hid hR1.hlen
  clear hown1 DC hm40
  go_wp2_with fail
  clear hmk
  have hV : Blk (((w1.alloc (.cells (cellsI (List.replicate 6 0)).toArray 3)).alloc (.cells (cellsI ((List.replicate 7 ((0 : Int), (0 : Int))).map Prod.fst)).toArray 36)).alloc (.cells (cellsI ((List.replicate 7 ((0 : Int), (0 : Int))).map Prod.snd)).toArray 36)) w1.heap.size 3 (cellsI (List.replicate 6 0)) := ((Blk.new w1 _ _).alloc _).alloc _
  have hM : Blk (((w1.alloc (.cells (cellsI (List.replicate 6 0)).toArray 3)).alloc (.cells (cellsI ((List.replicate 7 ((0 : Int), (0 : Int))).map Prod.fst)).toArray 36)).alloc (.cells (cellsI ((List.replicate 7 ((0 : Int), (0 : Int))).map Prod.snd)).toArray 36)) (w1.heap.size + 1) 36 (cellsI ((List.replicate 7 ((0 : Int), (0 : Int))).map Prod.fst)) := by
    have := (Blk.new (w1.alloc (.cells (cellsI (List.replicate 6 0)).toArray 3)) 36 (cellsI ((List.replicate 7 ((0 : Int), (0 : Int))).map Prod.fst))).alloc (.cells (cellsI ((List.replicate 7 ((0 : Int), (0 : Int))).map Prod.snd)).toArray 36)
    simpa using this
  have hS : Blk (((w1.alloc (.cells (cellsI (List.replicate 6 0)).toArray 3)).alloc (.cells (cellsI ((List.replicate 7 ((0 : Int), (0 : Int))).map Prod.fst)).toArray 36)).alloc (.cells (cellsI ((List.replicate 7 ((0 : Int), (0 : Int))).map Prod.snd)).toArray 36)) (w1.heap.size + 2) 36 (cellsI ((List.replicate 7 ((0 : Int), (0 : Int))).map Prod.snd)) := by
    have := (Blk.new ((w1.alloc (.cells (cellsI (List.replicate 6 0)).toArray 3)).alloc (.cells (cellsI ((List.replicate 7 ((0 : Int), (0 : Int))).map Prod.fst)).toArray 36)) 36 (cellsI ((List.replicate 7 ((0 : Int), (0 : Int))).map Prod.snd)))
    simpa using this
  have hbz : Below w1.heap.size w1 (((w1.alloc (.cells (cellsI (List.replicate 6 0)).toArray 3)).alloc (.cells (cellsI ((List.replicate 7 ((0 : Int), (0 : Int))).map Prod.fst)).toArray 36)).alloc (.cells (cellsI ((List.replicate 7 ((0 : Int), (0 : Int))).map Prod.snd)).toArray 36)) := (((Below.refl _ _).alloc (Nat.le_refl _) _).alloc (by simp) _).alloc (by simp; omega) _
  go_loopw [5, 8] (fun s5 s8 wr => ∃ (k m : Nat) (vs seen : List Int) (ds : List (Int × Int)), k ≤ m1 ∧ s8 = .int .i64 k ∧ vs.length = 6 ∧ ds.length = 7 ∧ Hid ((∀ v ∈ vs, 0 ≤ v ∧ v < 1000003) ∧ ∀ d ∈ ds, 0 ≤ d.1 ∧ d.1 ≤ k ∧ 0 ≤ d.2 ∧ d.2 ≤ k * 1000003) ∧
      Blk wr w1.heap.size 3 (cellsI vs) ∧ Blk wr (w1.heap.size + 1) 36 (cellsI (ds.map Prod.fst)) ∧ Blk wr (w1.heap.size + 2) 36 (cellsI (ds.map Prod.snd)) ∧ wr.ownsRow (w1.heap.size + 3) 3 1 s5 m (cellsI seen) ∧ m ≤ k ∧
      Hid (playF h = playGo vs seen ds ((doneL h).drop k)) ∧ Below w1.heap.size w1 wr)
    (fun _ s8 _ => m1 - (intOf s8).toNat)
  case atStart => exact ⟨0, 0, List.replicate 6 0, [], List.replicate 7 (0, 0), Nat.zero_le _, rfl, rfl, rfl, by constructor <;> simp, hV, hM, hS, World.ownsRow_nil _ _ _ _, Nat.zero_le _, rfl, hbz⟩
  case round =>
    clear hV hM hS hbz
    obtain ⟨k, m, vs, seen, ds, hk, rfl, hvl, hdl, HBD, hV, hM, hS, hown, hmk, HE, hbz⟩ := hrel
    obtain ⟨A5, c5, rfl⟩ := own_slice hown
    have hVl := hV.lt
    have hMl := hM.lt
    have hSl := hS.lt
    have hzz := hbz.size
    by_cases hlt : k < m1
    · obtain ⟨b, off, o, he, hb, ho, c0, c1, c2⟩ := (hR1.below hbz).op (k := k) (by omega)
      cases he
      have hro := HR.out o ((List.mem_filter.1 (List.mem_of_getElem? ho)).1)
      obtain ⟨tx, what, item⟩ := o
      have HO : Hid ((doneL h).drop k = ⟨tx, what, item⟩ :: (doneL h).drop (k + 1)) := drop_at ho
      clear ho
      obtain ⟨h1, h2, _, _, h3, _⟩ := rightB_get hro
      simp only at h1 h2 h3
      have h4 : tx.toNat < 7 := by omega
      clear hro
      obtain ⟨⟨many, sum⟩, hd⟩ : ∃ d, ds[tx.toNat]? = some d := ⟨_, List.getElem?_eq_getElem (by omega)⟩
      have hbd := HBD.out.2 _ (List.mem_of_getElem? hd)
      obtain ⟨b1, b2, b3, b4⟩ := hbd
      simp only at b1 b2 b3 b4
      have e0 : wr.cell? ⟨w1.heap.size + 1, tx.toNat, none⟩ = some (.int .i64 many) := hM.cellS (by rw [cellsI, List.getElem?_map, List.getElem?_map, hd]; rfl)
      have e1 : wr.cell? ⟨w1.heap.size + 2, tx.toNat, none⟩ = some (.int .i64 sum) := hS.cellS (by rw [cellsI, List.getElem?_map, List.getElem?_map, hd]; rfl)
      have f0 : wr.frozen? ⟨w1.heap.size + 1, tx.toNat, none⟩ = false := hM.frozen _
      have f1 : wr.frozen? ⟨w1.heap.size + 2, tx.toNat, none⟩ = false := hS.frozen _
      have HD1 := Lib.hid hd
      have hdg : ds.getD tx.toNat (0, 0) = (many, sum) := by rw [List.getD_eq_getElem?_getD, hd]; rfl
      have HDG := Lib.hid hdg
      clear hd hdg
      by_cases hw1 : what = 1
      · subst hw1
        obtain ⟨i1, i2⟩ := h3 (by omega)
        obtain ⟨v, hv⟩ : ∃ v, vs[(item.toNat - 1)]? = some v := ⟨_, List.getElem?_eq_getElem (by omega)⟩
        obtain ⟨v1, v2⟩ := HBD.out.1 _ (List.mem_of_getElem? hv)
        have ev : wr.cell? ⟨w1.heap.size, (item.toNat - 1), none⟩ = some (.int .i64 v) := hV.cellS (by rw [cellsI, List.getElem?_map, hv]; rfl)
        have HV := Lib.hid hv
        clear hv
        have i3 : (item.toNat - 1) < 6 := by omega
        have HE2 : Hid (playF h = playGo vs (seen ++ [v]) (ds.set tx.toNat (many + 1, sum + v)) ((doneL h).drop (k + 1))) := Lib.hid (by rw [HE.out, HO.out]; simp [playGo, List.getD_eq_getElem?_getD, HV.out, HD1.out])
        have HB2 : Hid ((∀ v ∈ vs, 0 ≤ v ∧ v < 1000003) ∧ ∀ d ∈ ds.set tx.toNat (many + 1, sum + v), 0 ≤ d.1 ∧ d.1 ≤ (k + 1 : Nat) ∧ 0 ≤ d.2 ∧ d.2 ≤ (k + 1 : Nat) * 1000003) := Lib.hid ⟨HBD.out.1, bds_set HBD.out.2 (by simp; omega)⟩
        go_wp2_with (at_builtin; (refine wpList_app rfl (.tmp 39) (.tmp 41) _ rfl (w1.heap.size + 3) slt_int (n := m) (xs := cellsI seen) (m := 1) (news := [.int .i64 v]) rfl (own_alloc (own_alloc (own_far hown (p := ⟨w1.heap.size + 1, tx.toNat, none⟩) (by simp) _) _) _) rfl (rd_new' _ _ [.int .i64 v] (by simp) rfl) (one1 (x := .int .i64 v) rfl) (by omega) (by simp; omega) ?_; intro v5 w5 hown5 hg5 hb5 hat5 hne5; have hz5 := hb5.size; have hM5 := (((hM.put tx.toNat (.int .i64 (many + 1))).alloc _).alloc _).below hb5 (by omega); have hS5 := (((hS.far (p := ⟨w1.heap.size + 1, tx.toNat, none⟩) (by simp) (.int .i64 (many + 1))).alloc _).alloc _).below hb5 (by omega); have hV5 := (((hV.far (p := ⟨w1.heap.size + 1, tx.toNat, none⟩) (by simp) (.int .i64 (many + 1))).alloc _).alloc _).below hb5 (by omega); have hbz5 := (((hbz.setCell (p := ⟨w1.heap.size + 1, tx.toNat, none⟩) (by simp) (.int .i64 (many + 1))).alloc (by simp; omega) _).alloc (by simp; omega) _).trans (hb5.mono (by omega)); have e15 := hS5.cellS (i := tx.toNat) (v := .int .i64 sum) (by rw [cellsI, List.getElem?_map, List.getElem?_map, HD1.out]; rfl); have f15 := hS5.frozen tx.toNat; have hO5 := ((Blk.new (wr.setCell ⟨w1.heap.size + 1, tx.toNat, none⟩ (.int .i64 (many + 1))) 24 [.int .i64 tx, .int .i64 1, .int .i64 item]).alloc (.cells #[.int .i64 v] 3)).other (own_alloc (own_alloc (own_far hown (p := ⟨w1.heap.size + 1, tx.toNat, none⟩) (by simp) _) _) _) (by decide) hg5; simp only [World.size_setCell] at hO5; have d0 := hO5.cellS (i := 0) (v := .int .i64 tx) rfl; have d1 := hO5.cellS (i := 1) (v := .int .i64 1) rfl; have d2 := hO5.cellS (i := 2) (v := .int .i64 item) rfl; clear hb5 hg5 hat5 hne5))
        go_region
        all_goals
          go_wp2
          go_roundw
          case rel => exact ⟨k + 1, m + 1, vs, seen ++ [v], ds.set tx.toNat (many + 1, sum + v), by omega, by go_num, hvl, by simp [hdl], HB2,
            (hV5.far (p := ⟨w1.heap.size + 2, tx.toNat, none⟩) (by simp) _).drew,
            by rw [fst_set]; exact (hM5.far (p := ⟨w1.heap.size + 2, tx.toNat, none⟩) (by simp) _).drew,
            by rw [snd_set]; exact (hS5.put _ _).drew,
            by rw [cellsI, List.map_append]; exact (own_far hown5 (p := ⟨w1.heap.size + 2, tx.toNat, none⟩) (by simp) _).drew, by omega, HE2,
            (hbz5.setCell (p := ⟨w1.heap.size + 2, tx.toNat, none⟩) (by simp) _).drew⟩
          case measure => simp [intOf]; omega
      have hne1 : (what == 1) = false := by simpa using hw1
      by_cases hw2 : what = 2
      · subst hw2
        clear hne1 hw1
        obtain ⟨i1, i2⟩ := h3 (by omega)
        obtain ⟨v, hv⟩ : ∃ v, vs[item.toNat - 1]? = some v := ⟨_, List.getElem?_eq_getElem (by omega)⟩
        have ev : wr.cell? ⟨w1.heap.size, item.toNat - 1, none⟩ = some (.int .i64 v) := hV.cellS (by rw [cellsI, List.getElem?_map, hv]; rfl)
        have fv : wr.frozen? ⟨w1.heap.size, item.toNat - 1, none⟩ = false := hV.frozen _
        clear hv
        have i3 : item.toNat - 1 < 6 := by omega
        have HE2 : Hid (playF h = playGo (vs.set (item.toNat - 1) ((7 * tx + (many + 1) + sum) % 1000003)) seen (ds.set tx.toNat (many + 1, sum)) ((doneL h).drop (k + 1))) := Lib.hid (by rw [HE.out, HO.out]; simp [playGo, List.getD_eq_getElem?_getD, HD1.out])
        have HB2 : Hid ((∀ v' ∈ vs.set (item.toNat - 1) ((7 * tx + (many + 1) + sum) % 1000003), 0 ≤ v' ∧ v' < 1000003) ∧ ∀ d ∈ ds.set tx.toNat (many + 1, sum), 0 ≤ d.1 ∧ d.1 ≤ (k + 1 : Nat) ∧ 0 ≤ d.2 ∧ d.2 ≤ (k + 1 : Nat) * 1000003) := Lib.hid ⟨fun v' hv' => by
          rcases List.mem_or_eq_of_mem_set hv' with h1 | rfl
          · exact HBD.out.1 v' h1
          · omega, bds_set HBD.out.2 (by simp; omega)⟩
        go_wp2
        go_region
        all_goals
          go_wp2
          go_roundw
          case rel => exact ⟨k + 1, m, vs.set (item.toNat - 1) ((7 * tx + (many + 1) + sum) % 1000003), seen, ds.set tx.toNat (many + 1, sum), by omega, by go_num, by simp [hvl], by simp [hdl], HB2,
            by rw [cellsI, List.map_set]; exact (((hV.far (p := ⟨w1.heap.size + 1, tx.toNat, none⟩) (by simp) _).put _ _).alloc _).drew,
            by rw [fst_set]; exact (((hM.put _ _).far (p := ⟨w1.heap.size, item.toNat - 1, none⟩) (by simp) _).alloc _).drew,
            by rw [snd_same (d' := (many + 1, sum)) HD1.out rfl]; exact (((hS.far (p := ⟨w1.heap.size + 1, tx.toNat, none⟩) (by simp) _).far (p := ⟨w1.heap.size, item.toNat - 1, none⟩) (by simp) _).alloc _).drew,
            (own_alloc (own_far (own_far hown (p := ⟨w1.heap.size + 1, tx.toNat, none⟩) (by simp) _) (p := ⟨w1.heap.size, item.toNat - 1, none⟩) (by simp) _) _).drew, by omega, HE2,
            (((hbz.setCell (p := ⟨w1.heap.size + 1, tx.toNat, none⟩) (by simp) _).setCell (p := ⟨w1.heap.size, item.toNat - 1, none⟩) (by simp) _).alloc (by simp; omega) _).drew⟩
          case measure => simp [intOf]; omega
      · have hne2 : (what == 2) = false := by simpa using hw2
        have HE2 : Hid (playF h = playGo vs seen (ds.set tx.toNat (many + 1, sum)) ((doneL h).drop (k + 1))) := Lib.hid (by rw [HE.out, HO.out]; simp [playGo, List.getD_eq_getElem?_getD, HD1.out, hw1, hw2])
        have HB2 : Hid ((∀ v ∈ vs, 0 ≤ v ∧ v < 1000003) ∧ ∀ d ∈ ds.set tx.toNat (many + 1, sum), 0 ≤ d.1 ∧ d.1 ≤ (k + 1 : Nat) ∧ 0 ≤ d.2 ∧ d.2 ≤ (k + 1 : Nat) * 1000003) := Lib.hid ⟨HBD.out.1, bds_set HBD.out.2 (by simp; omega)⟩
        go_wp2
        go_roundw
        case rel => exact ⟨k + 1, m, vs, seen, ds.set tx.toNat (many + 1, sum), by omega, by go_num, hvl, by simp [hdl], HB2, (hV.far (p := ⟨w1.heap.size + 1, tx.toNat, none⟩) (by simp) _).alloc _, by rw [fst_set]; exact (hM.put _ _).alloc _, by rw [snd_same (d' := (many + 1, sum)) HD1.out rfl]; exact (hS.far (p := ⟨w1.heap.size + 1, tx.toNat, none⟩) (by simp) _).alloc _, own_alloc (own_far hown (p := ⟨w1.heap.size + 1, tx.toNat, none⟩) (by simp) _) _, by omega, HE2, (hbz.setCell (p := ⟨w1.heap.size + 1, tx.toNat, none⟩) (by simp) _).alloc (by simp; omega) _⟩
        case measure => simp [intOf]; omega
    · have HF : Hid (playF h = (vs, seen)) := Lib.hid (by rw [HE.out, drop_end (by rw [HLM.out]; omega)]; rfl)
      have HO1 : Hid (wr.ownsRow w.heap.size 3 1 (.slice (some ⟨w1.heap.size, 0, none⟩) 6 6) 6 (cellsI vs)) := Lib.hid (own_blk hV hz1 (by decide) (by simp [cellsI, hvl]))
      have HO2 := Lib.hid (own_mono hown (Nat.le_trans hz1 (by omega)))
      have hbw := hb1.trans (hbz.mono hz1)
      clear hV hM hS hown hbz
      go_wp2
      go_ret2
      exact ⟨_, _, m, rfl, by rw [HF.out]; exact HO1.out, by rw [HF.out]; exact HO2.out, hbw⟩

theorem rseen_le (l : List HOp) : ∀ (vs seen : List Int) (ds : List (Int × Int)), (playGo vs seen ds l).2.length ≤ seen.length + l.length := by
  induction l with
  | nil => intros; simp [playGo]
  | cons o r ih =>
    intro vs seen ds
    unfold playGo
    split
    · refine Nat.le_trans (ih _ _ _) (by simp; omega)
    · split
      · exact Nat.le_trans (ih _ _ _) (by simp)
      · exact Nat.le_trans (ih _ _ _) (by simp)
theorem rseen_len {h : List HOp} (hk : okH h) : (playF h).2.length ≤ 40 := by
  have h1 := rseen_le (doneL h) (List.replicate 6 0) [] (List.replicate 7 (0, 0))
  have h2 : (doneL h).length ≤ h.length := List.length_filter_le _ _
  have h3 : (playF h).2 = (playGo (List.replicate 6 0) [] (List.replicate 7 (0, 0)) (doneL h)).2 := rfl
  have := okH_len hk
  rw [h3]; simp only [List.length_nil] at h1; omega
end Go.Proofs.YtoboecppilmnnaaDoor


/-
  CONTRACTS of laneref1.Done, Play where the ops are right.
  CONTRACTS of the references' laneref1.Odds, Add, Of, place: two ops at odds; an edge put into some that are sorted; a deal's ops; the place of its n-th op.
  CONTRACT of the reference's laneref1.Add: an edge put into some that are sorted, once.
  CONTRACT of lanesame.Edges: whether two lists of edges are the same.
-/
import Derived.Test.YtmamejkdheigjaaGreatDoorN1
import Derived.Test.YtmamejkdheigjaaGreatDoorSE1
import Derived.Test.YtmamejkdheigjaaGreatDoorAlikeP
import Derived.Test.YtmamejkdheigjaaGreatDoorROf
import Derived.BigQuiet
import Derived.Test.YtmamejkdheigjaaGreatDoorSW
import Derived.Test.YtmamejkdheigjaaGreatDoorM7

namespace Go.Proofs.YtmamejkdheigjaaGreatDoor
open Go.RowKit

theorem filter_snoc {α : Type} (p : α → Bool) {h : List α} {k : Nat} {o : α} (ho : h[k]? = some o) : (h.take (k + 1)).filter p = if p o = true then (h.take k).filter p ++ [o] else (h.take k).filter p := by
  rw [List.take_add_one, ho, List.filter_append]
  cases hp : p o <;> simp [hp]

set_option maxHeartbeats 1000000 in
theorem rdone_any (A : Option Addr) (n cap : Nat) (h : List HOp) (w : World) (hr : Rd w w.heap.size 3 A n (cellsH h)) (hok : okH h) :
    Calls Tryz.prog 17 #[.slice A n cap] w fun e w' => ∃ A' m c', e = .returned (.slice A' m c') ∧ w'.ownsRow w.heap.size 54 3 (.slice A' m c') m (cellsH (doneL h)) ∧ Below w.heap.size w w' := by
  have hl := hr.hlen
  have hm : n ≤ 40 := by rw [← hl]; exact okH_len hok
  have HD := Lib.hid (doneL_eq hok)
  have HTK : Hid (h.take n = h) := Lib.hid (List.take_of_length_le (by omega))
  clear hl hok
  go_enter Tryz.func17, Tryz.ntmps17
  go_wp2
  go_loopw [3, 4] (fun s3 s4 wr => ∃ k m : Nat, k ≤ n ∧ s4 = .int .i64 k ∧ wr.ownsRow w.heap.size 54 3 s3 m (cellsH ((h.take k).filter fun o => decide (endGo o.tx h = 3))) ∧ m ≤ k ∧ Below w.heap.size w wr) (fun _ s4 _ => n - (intOf s4).toNat)
  case atStart => exact ⟨0, 0, Nat.zero_le _, rfl, World.ownsRow_nil _ _ _ _, Nat.zero_le _, Below.refl _ _⟩
  case round =>
    obtain ⟨k, m, hk, rfl, ho3, hmk, hbw⟩ := hrel
    obtain ⟨A3, c3, rfl⟩ := own_slice ho3
    have hz := hbw.size
    by_cases hlt : k < n
    · have hrw := (hr.below hbw).more hz
      obtain ⟨b, off, o, he, hb, ho, c0, c1, c2⟩ := hrw.op (k := k) hlt
      cases he
      have HF := Lib.hid (filter_snoc (fun o => decide (endGo o.tx h = 3)) ho)
      clear ho
      obtain ⟨tx, what, item⟩ := o
      by_cases he : endGo tx h = 3
      · have HE := Lib.hid he
        have HF2 : Hid ((h.take (k + 1)).filter (fun o => decide (endGo o.tx h = 3)) = (h.take k).filter (fun o => decide (endGo o.tx h = 3)) ++ [⟨tx, what, item⟩]) := Lib.hid (by rw [HF.out]; simp [he])
        clear he
        go_wp2_with fail
        refine (end_any _ n cap h tx n wr _ hrw (Nat.le_refl _) (by omega)).mono ?_
        rw [HTK.out, HE.out]
        rintro e w1 ⟨rfl, rfl⟩
        go_wp2_with (at_builtin; (refine wpList_app rfl (.tmp 21) (.tmp 26) _ rfl w.heap.size slt_op (n := m) (xs := cellsH ((h.take k).filter fun o => decide (endGo o.tx h = 3))) (m := 1) (news := cellsH [⟨tx, what, item⟩]) rfl (own_alloc ho3 _) rfl (rd_new' _ _ (cellsH [⟨tx, what, item⟩]) (by simp) rfl) (oneH _) (by omega) (by simp; omega) ?_; intro v5 w5 hown5 hg5 hb5 hat5 hne5))
        have hbw5 : Below w.heap.size w w5 := (hbw.alloc hz _).trans hb5
        rw [← cellsH_append, ← HF2.out] at hown5
        go_roundw
        case rel => exact ⟨k + 1, m + 1, by omega, by go_num, hown5, by omega, hbw5⟩
        case measure => simp [intOf]; omega
      · have HF2 : Hid ((h.take (k + 1)).filter (fun o => decide (endGo o.tx h = 3)) = (h.take k).filter (fun o => decide (endGo o.tx h = 3))) := Lib.hid (by rw [HF.out]; simp [he])
        have he2 : (endGo tx h == 3) = false := by simpa using he
        clear he
        go_wp2_with fail
        refine (end_any _ n cap h tx n wr _ hrw (Nat.le_refl _) (by omega)).mono ?_
        rw [HTK.out]
        rintro e w1 ⟨rfl, rfl⟩
        go_wp2
        go_roundw
        case rel => exact ⟨k + 1, m, by omega, by go_num, by rw [HF2.out]; exact ho3, by omega, hbw⟩
        case measure => simp [intOf]; omega
    · have HF : Hid (wr.ownsRow w.heap.size 54 3 (.slice A3 m c3) m (cellsH (doneL h))) := Lib.hid (by
        rw [HD.out]
        have hkn : k = n := by omega
        rw [hkn, HTK.out] at ho3; exact ho3)
      clear ho3
      go_wp2
      go_ret
      exact ⟨A3, m, c3, rfl, HF.out, hbw⟩

theorem fst_set (ds : List (Int × Int)) (i : Nat) (d : Int × Int) : cellsI ((ds.set i d).map Prod.fst) = (cellsI (ds.map Prod.fst)).set i (.int .i64 d.1) := by simp [cellsI, List.map_set]
theorem snd_set (ds : List (Int × Int)) (i : Nat) (d : Int × Int) : cellsI ((ds.set i d).map Prod.snd) = (cellsI (ds.map Prod.snd)).set i (.int .i64 d.2) := by simp [cellsI, List.map_set]
theorem snd_same {ds : List (Int × Int)} {i : Nat} {d d' : Int × Int} (h : ds[i]? = some d) (h2 : d'.2 = d.2) : cellsI ((ds.set i d').map Prod.snd) = cellsI (ds.map Prod.snd) := by
  rw [snd_set]; exact set_same (by rw [cellsI, List.getElem?_map, List.getElem?_map, h, h2]; rfl)

theorem rseen_le (l : List HOp) : ∀ (vs seen : List Int) (ds : List (Int × Int)), (playGo vs seen ds l).2.length ≤ seen.length + l.length := by
  induction l with
  | nil => intros; simp [playGo]
  | cons o r ih =>
    intro vs seen ds
    unfold playGo
    split
    · refine Nat.le_trans (ih _ _ _) (by simp; omega)
    · split
      · exact Nat.le_trans (ih _ _ _) (by simp)
      · exact Nat.le_trans (ih _ _ _) (by simp)
theorem rseen_len {h : List HOp} (hk : okH h) : (playF h).2.length ≤ 40 := by
  have h1 := rseen_le (doneL h) (List.replicate 6 0) [] (List.replicate 7 (0, 0))
  have h2 : (doneL h).length ≤ h.length := List.length_filter_le _ _
  have h3 : (playF h).2 = (playGo (List.replicate 6 0) [] (List.replicate 7 (0, 0)) (doneL h)).2 := rfl
  have := okH_len hk
  rw [h3]; simp only [List.length_nil] at h1; omega
end Go.Proofs.YtmamejkdheigjaaGreatDoor


namespace Go.Proofs.YtmamejkdheigjaaGreatDoor
open Go.RowKit

set_option maxHeartbeats 4000000 in
theorem rodds_any (a b : HOp) (ha0 : 0 ≤ a.item) (w : World) : Calls Tryz.prog 30 #[a.val, b.val] w fun e w' => e = .returned (.bool (oddB a b)) ∧ Below w.heap.size w w' := by
  obtain ⟨a1, a2, a3⟩ := a
  obtain ⟨b1, b2, b3⟩ := b
  simp only at ha0
  unfold HOp.val
  by_cases h1 : a1 = b1
  · have HF : Hid (oddB ⟨a1, a2, a3⟩ ⟨b1, b2, b3⟩ = false) := Lib.hid (by simp [oddB, h1])
    have h1b : (a1 != b1) = false := by simpa using h1
    go_enter Tryz.func30, Tryz.ntmps30
    go_wp2
    go_ret
    exact ⟨ret_bool HF.out.symm, ((Below.refl _ _).alloc (Nat.le_refl _) _).alloc (by simp) _⟩
  have h1b : (a1 != b1) = true := by simpa using h1
  by_cases h2 : a3 = b3
  · subst h2
    by_cases h3 : a3 = 0
    · have HF : Hid (oddB ⟨a1, a2, a3⟩ ⟨b1, b2, a3⟩ = false) := Lib.hid (by simp [oddB, h3])
      have h3b : decide (a3 > 0) = false := by simp; omega
      clear h3
      go_enter Tryz.func30, Tryz.ntmps30
      go_wp2
      go_ret
      exact ⟨ret_bool HF.out.symm, ((Below.refl _ _).alloc (Nat.le_refl _) _).alloc (by simp) _⟩
    have h3b : decide (a3 > 0) = true := by simp; omega
    by_cases h4 : a2 = 2
    · have HF : Hid (oddB ⟨a1, a2, a3⟩ ⟨b1, b2, a3⟩ = true) := Lib.hid (by simp [oddB, h1, h3, h4])
      have h4b : (a2 == 2) = true := by simpa using h4
      go_enter Tryz.func30, Tryz.ntmps30
      go_wp2
      go_ret
      exact ⟨ret_bool HF.out.symm, ((Below.refl _ _).alloc (Nat.le_refl _) _).alloc (by simp) _⟩
    · have HF : Hid (oddB ⟨a1, a2, a3⟩ ⟨b1, b2, a3⟩ = (b2 == 2)) := Lib.hid (by by_cases h5 : b2 = 2 <;> simp [oddB, h1, h3, h4, h5])
      have h4b : (a2 == 2) = false := by simpa using h4
      go_enter Tryz.func30, Tryz.ntmps30
      go_wp2
      go_ret
      exact ⟨ret_bool HF.out.symm, ((Below.refl _ _).alloc (Nat.le_refl _) _).alloc (by simp) _⟩
  · have HF : Hid (oddB ⟨a1, a2, a3⟩ ⟨b1, b2, b3⟩ = false) := Lib.hid (by simp [oddB, h2])
    have h2b : (a3 == b3) = false := by simpa using h2
    go_enter Tryz.func30, Tryz.ntmps30
    go_wp2
    go_ret
    exact ⟨ret_bool HF.out.symm, ((Below.refl _ _).alloc (Nat.le_refl _) _).alloc (by simp) _⟩

/-! ### The place of a deal's n-th op. -/
def placeGo (t : Int) (i : Int) : Int → List HOp → Int
  | _, [] => -1
  | n, o :: r => if o.tx = t then (if n = 0 then i else placeGo t (i + 1) (n - 1) r) else placeGo t (i + 1) n r
def placeF (h : List HOp) (t n : Int) : Int := placeGo t 0 n h
theorem placeGo_step {t i n : Int} {o : HOp} {l r : List HOp} (e : l = o :: r) : placeGo t i n l = if o.tx = t then (if n = 0 then i else placeGo t (i + 1) (n - 1) r) else placeGo t (i + 1) n r := by rw [e, placeGo]
end Go.Proofs.YtmamejkdheigjaaGreatDoor


namespace Go.Proofs.YtmamejkdheigjaaGreatDoor
open Go.RowKit

theorem insE_step {x y : Int × Int} {l t : List (Int × Int)} (h : l = y :: t) : insS ltE x l = if ltE y x = true then y :: insS ltE x t else if y = x then y :: t else x :: y :: t := by
  rw [h, insS]
theorem Rd.takeD {w : World} {B n : Nat} {A : Option Addr} {l : List (Int × Int)} (h : Rd w B 2 A n (dcells l)) {k : Nat} (hk : k ≤ n) : Rd w B 2 A k (dcells (l.take k)) := by
  refine ⟨by rw [dcells_length, List.length_take, h.dlen]; omega, fun h0 => ?_⟩
  obtain ⟨b, off, hA, hb, hc⟩ := h.2 (by omega)
  refine ⟨b, off, hA, hb, fun j u hu => hc j u ?_⟩
  rw [← dcells_take, List.getElem?_take] at hu
  split at hu
  · exact hu
  · cases hu
theorem Rd.dropD {w : World} {B n b off : Nat} {l : List (Int × Int)} (h : Rd w B 2 (some ⟨b, off, none⟩) n (dcells l)) {k : Nat} (hk : k < n) : Rd w B 2 (some ⟨b, off + k * 2, none⟩) (n - k) (dcells (l.drop k)) := by
  refine ⟨by rw [dcells_length, List.length_drop, h.dlen], fun h0 => ?_⟩
  obtain ⟨b', off', hA, hb, hc⟩ := h.2 (by omega)
  cases hA
  refine ⟨b, off + k * 2, rfl, hb, fun j u hu => ?_⟩
  have e : (dcells l)[k * 2 + j]? = some u := by
    have h1 : dcells l = dcells (l.take k) ++ dcells (l.drop k) := by rw [← dcells_append, List.take_append_drop]
    rw [h1, List.getElem?_append_right (by rw [dcells_length, List.length_take, h.dlen]; omega)]
    rw [dcells_length, List.length_take, h.dlen, Nat.min_eq_left (by omega), Nat.add_sub_cancel_left]
    exact hu
  have := hc _ u e
  rwa [Nat.add_assoc]
theorem own_cap2 {w : World} {base : Nat} {e : TypeId} {size : Nat} {A : Option Addr} {n c : Nat} {xs : List Value} (h : w.ownsRow base e size (.slice A n c) n xs) : n ≤ c := by
  rcases h.2 with ⟨hv, h0⟩ | ⟨_, _, _, hv, _, _, hnc, _⟩
  · omega
  · injection hv with _ _ hc; omega
set_option maxRecDepth 100000 in
set_option maxHeartbeats 8000000 in
theorem radd_any (A : Option Addr) (n c : Nat) (l : List (Int × Int)) (x1 x2 : Int) (w : World) (hr : Rd w w.heap.size 2 A n (dcells l)) (hm : n ≤ 1000000) (hcap : n ≤ c) :
    Calls Tryz.prog 31 #[.slice A n c, .agg #[.int .i64 x1, .int .i64 x2]] w fun e w' => ∃ A' n' c', e = .returned (.slice A' n' c') ∧ n' ≤ c' ∧ Rd w' w'.heap.size 2 A' n' (dcells (insS ltE (x1, x2) l)) ∧ n' ≤ n + 1 ∧ Below w.heap.size w w' := by
  have HL := Lib.hid hr.dlen
  have HI0 : Hid (insS ltE (x1, x2) l = l.take 0 ++ insS ltE (x1, x2) (l.drop 0)) := Lib.hid (by simp)
  have hB0 := Blk.new w 58 [.int .i64 x1, .int .i64 x2]
  have hbw0 : Below w.heap.size w (w.alloc (.cells #[.int .i64 x1, .int .i64 x2] 58)) := (Below.refl _ _).alloc (Nat.le_refl _) _
  have HRd := hide (fun w1 (hb : Below w.heap.size w w1) => hr.below hb)
  go_enter Tryz.func31, Tryz.ntmps31
  go_wp2
  go_loopw [5] (fun s5 wr => ∃ k : Nat, k ≤ n ∧ s5 = .int .i64 k ∧ Hid (insS ltE (x1, x2) l = l.take k ++ insS ltE (x1, x2) (l.drop k)) ∧ Blk wr w.heap.size 58 [.int .i64 x1, .int .i64 x2] ∧ Below w.heap.size w wr) (fun s5 _ => n - (intOf s5).toNat)
  case atStart => exact ⟨0, Nat.zero_le _, rfl, HI0, hB0, hbw0⟩
  case round =>
    clear hB0 hbw0 HI0
    obtain ⟨k, hk, rfl, HE, hB, hbw⟩ := hrel
    have b0 := hB.cellS (i := 0) (v := .int .i64 x1) rfl
    have b1 := hB.cellS (i := 1) (v := .int .i64 x2) rfl
    have hBl := hB.lt
    have HB2 := hide (fun q => (show Blk (wr.drewN q) w.heap.size 58 [.int .i64 x1, .int .i64 x2] from hB))
    have HX2 := hide (fun q => below_drewN hbw q)
    by_cases hlt : k < n
    · obtain ⟨b, off, y, he, hb, ho, c0, c1⟩ := (unhide HRd wr hbw).pr (k := k) hlt
      cases he
      have HS := Lib.hid (insE_step (x := (x1, x2)) (drop_at ho))
      have HT := Lib.hid (tkSnoc ho)
      have HD := Lib.hid (drop_at ho)
      clear ho
      obtain ⟨y1, y2⟩ := y
      simp only at c0 c1
      have j0 : (0 : Int) ≤ (k : Int) := by omega
      have j1 : (k : Int) < (n : Int) := by omega
      have j2 : decide (k < n) = true := by simpa using hlt
      by_cases hle : ltE (y1, y2) (x1, x2) = true
      · have HE2 : Hid (insS ltE (x1, x2) l = l.take (k + 1) ++ insS ltE (x1, x2) (l.drop (k + 1))) := Lib.hid (by rw [HE.out, HS.out, if_pos hle, HT.out]; simp)
        clear HE HS HT HD
        by_cases h1 : y1 < x1
        · have t1 : decide (y1 < x1) = true := by simpa using h1
          clear hle h1
          go_wp2
          go_quiet (fail)
          have hB2 := unhide HB2 nq
          have hbx2 := unhide HX2 nq
          go_wp2
          go_roundw
          case rel => exact ⟨k + 1, by omega, by go_num, HE2, hB2, hbx2⟩
          case measure => simp [intOf]; omega
        · have h2 : y1 = x1 ∧ y2 < x2 := by unfold ltE at hle; have := of_decide_eq_true hle; omega
          obtain ⟨rfl, h3⟩ := h2
          have t1 : decide (y1 < y1) = false := by simp
          have t2 : (y1 == y1) = true := by simp
          have t3 : decide (y2 < x2) = true := by simpa using h3
          clear hle h1 h3
          go_wp2
          go_quiet (fail)
          have hB2 := unhide HB2 nq
          have hbx2 := unhide HX2 nq
          go_wp2
          go_roundw
          case rel => exact ⟨k + 1, by omega, by go_num, HE2, hB2, hbx2⟩
          case measure => simp [intOf]; omega
      · by_cases hxy : (y1, y2) = (x1, x2)
        · have HE2 : Hid (insS ltE (x1, x2) l = l) := Lib.hid (by rw [HE.out, HS.out, if_neg hle, if_pos hxy, ← HD.out, List.take_append_drop])
          cases hxy
          have t1 : decide (x1 < x1) = false := by simp
          have t2 : (x1 == x1) = true := by simp
          have t3 : decide (x2 < x2) = false := by simp
          clear HE HS HT HD hle
          go_wp2
          go_quiet (fail)
          have hbx2 := unhide HX2 nq
          generalize nq = q1 at *
          go_wp2
          go_quiet (fail)
          have hbx3 := below_drewN hbx2 nq
          go_wp2
          go_ret
          exact ⟨_, n, c, rfl, hcap, by rw [HE2.out]; exact (unhide HRd _ hbx3).more hbx3.size, by omega, hbx3⟩
        · have HI : Hid (insS ltE (x1, x2) l = l.take k ++ ([(x1, x2)] ++ l.drop k)) := Lib.hid (by rw [HE.out, HS.out, if_neg hle, if_neg hxy, ← HD.out]; rfl)
          have hck : (c == k) = false := by simp; omega
          have t4 : ¬ (y1 < x1 ∨ y1 = x1 ∧ y2 < x2) := by unfold ltE at hle; simpa using hle
          have hxy2 : ¬ (y1 = x1 ∧ y2 = x2) := fun h => hxy (by rw [h.1, h.2])
          clear HE HS HT HD hle hxy
          by_cases g1 : y1 = x1 <;> by_cases g2 : y2 = x2
          · exact absurd ⟨g1, g2⟩ hxy2
          · replace g1 := g1.symm
            subst g1
            have t1 : decide (x1 < x1) = false := by simp
            have t2 : (x1 == x1) = true := by simp
            have t3 : decide (y2 < x2) = false := by simp; omega
            clear hxy2 t4
            go_wp2
            go_quiet (fail)
            have hB2 := unhide HB2 nq
            have hbx2 := unhide HX2 nq
            generalize nq = q1 at *
            have HB3 := hide (fun q => (show Blk ((wr.drewN q1).drewN q) w.heap.size 58 [.int .i64 x1, .int .i64 x2] from hB2))
            have HX3 := hide (fun q => below_drewN hbx2 q)
            go_wp2
            go_quiet (fail)
            have hB3 := unhide HB3 nq
            have hbx3 := unhide HX3 nq
            generalize (wr.drewN q1).drewN nq = wb at *
            have hTK := (unhide HRd wb hbx3).takeD (k := k) (by omega)
            have hz3 := hB3.lt
            clear HB2 HX2 HB3 HX3 hB2 hbx2 hB hbw b0 b1 hBl
            go_wp2_with (at_builtin; first
              | (refine wpList_app rfl (.tmp 56) (.tmp 59) _ rfl (w.heap.size + 1) slt_edge (n := 0) (xs := []) (m := k) (news := dcells (l.take k)) rfl (World.ownsRow_nil _ _ _ _) rfl hTK (oneD _) (by omega) (by omega) ?_; intro v5 w5 hown5 hg5 hb5 hat5 hne5; (rw [Nat.zero_add, List.nil_append] at hown5); obtain ⟨A5, c5, rfl⟩ := own_slice hown5; have e5 := hB3.below hb5 (by omega); have x0 := e5.cellS (i := 0) (v := .int .i64 x1) rfl; have x1' := e5.cellS (i := 1) (v := .int .i64 x2) rfl; have hbx5 := hbx3.trans (hb5.mono (by omega)); have hz5 := hb5.size)
              | (refine wpList_app rfl (.tmp 61) (.tmp 63) _ rfl (w.heap.size + 1) slt_edge (n := k) (xs := dcells (l.take k)) (m := 1) (news := dcells [(x1, x2)]) rfl (own_alloc hown5 _) rfl (rd_new' _ _ (dcells [(x1, x2)]) (by simp) rfl) (oneD _) (by omega) (by simp; omega) ?_; intro v6 w6 hown6 hg6 hb6 hat6 hne6; obtain ⟨A6, c6, rfl⟩ := own_slice hown6; have hbx6 := (hbx5.alloc hbx5.size (.cells (dcells [(x1, x2)]).toArray 58)).trans (hb6.mono (by omega)); (rw [← dcells_append] at hown6); have hz6 := hb6.size; have hz6' : w.heap.size + 1 ≤ w6.heap.size := (by simp at hz6; omega); have hTD := (unhide HRd w6 hbx6).dropD (k := k) hlt)
              | (refine wpList_app rfl (.tmp 65) (.tmp 68) _ rfl (w.heap.size + 1) slt_edge (n := k + 1) (xs := dcells (l.take k ++ [(x1, x2)])) (m := n - k) (news := dcells (l.drop k)) rfl hown6 rfl hTD (oneD _) (by omega) hz6' ?_; intro v7 w7 hown7 hg7 hb7 hat7 hne7))
            rw [← dcells_append, List.append_assoc] at hown7
            have hbx7 := hbx6.trans (hb7.mono (by omega))
            obtain ⟨A7, c7, rfl⟩ := own_slice hown7
            have hcp7 : k + 1 + (n - k) ≤ c7 := own_cap2 hown7
            have hd7 := rd_own hown7
            go_wp2
            go_ret
            exact ⟨_, _, _, rfl, hcp7, by rw [HI.out]; exact hd7, by omega, hbx7⟩
          · replace g2 := g2.symm
            subst g2
            have t1 : decide (y1 < x1) = false := by simp; omega
            have t2 : (y1 == x1) = false := by simpa using g1
            clear hxy2 t4
            go_wp2
            go_quiet (fail)
            have hB2 := unhide HB2 nq
            have hbx2 := unhide HX2 nq
            generalize nq = q1 at *
            have HB3 := hide (fun q => (show Blk ((wr.drewN q1).drewN q) w.heap.size 58 [.int .i64 x1, .int .i64 x2] from hB2))
            have HX3 := hide (fun q => below_drewN hbx2 q)
            go_wp2
            go_quiet (fail)
            have hB3 := unhide HB3 nq
            have hbx3 := unhide HX3 nq
            generalize (wr.drewN q1).drewN nq = wb at *
            have hTK := (unhide HRd wb hbx3).takeD (k := k) (by omega)
            have hz3 := hB3.lt
            clear HB2 HX2 HB3 HX3 hB2 hbx2 hB hbw b0 b1 hBl
            go_wp2_with (at_builtin; first
              | (refine wpList_app rfl (.tmp 56) (.tmp 59) _ rfl (w.heap.size + 1) slt_edge (n := 0) (xs := []) (m := k) (news := dcells (l.take k)) rfl (World.ownsRow_nil _ _ _ _) rfl hTK (oneD _) (by omega) (by omega) ?_; intro v5 w5 hown5 hg5 hb5 hat5 hne5; (rw [Nat.zero_add, List.nil_append] at hown5); obtain ⟨A5, c5, rfl⟩ := own_slice hown5; have e5 := hB3.below hb5 (by omega); have x0 := e5.cellS (i := 0) (v := .int .i64 x1) rfl; have x1' := e5.cellS (i := 1) (v := .int .i64 x2) rfl; have hbx5 := hbx3.trans (hb5.mono (by omega)); have hz5 := hb5.size)
              | (refine wpList_app rfl (.tmp 61) (.tmp 63) _ rfl (w.heap.size + 1) slt_edge (n := k) (xs := dcells (l.take k)) (m := 1) (news := dcells [(x1, x2)]) rfl (own_alloc hown5 _) rfl (rd_new' _ _ (dcells [(x1, x2)]) (by simp) rfl) (oneD _) (by omega) (by simp; omega) ?_; intro v6 w6 hown6 hg6 hb6 hat6 hne6; obtain ⟨A6, c6, rfl⟩ := own_slice hown6; have hbx6 := (hbx5.alloc hbx5.size (.cells (dcells [(x1, x2)]).toArray 58)).trans (hb6.mono (by omega)); (rw [← dcells_append] at hown6); have hz6 := hb6.size; have hz6' : w.heap.size + 1 ≤ w6.heap.size := (by simp at hz6; omega); have hTD := (unhide HRd w6 hbx6).dropD (k := k) hlt)
              | (refine wpList_app rfl (.tmp 65) (.tmp 68) _ rfl (w.heap.size + 1) slt_edge (n := k + 1) (xs := dcells (l.take k ++ [(x1, x2)])) (m := n - k) (news := dcells (l.drop k)) rfl hown6 rfl hTD (oneD _) (by omega) hz6' ?_; intro v7 w7 hown7 hg7 hb7 hat7 hne7))
            rw [← dcells_append, List.append_assoc] at hown7
            have hbx7 := hbx6.trans (hb7.mono (by omega))
            obtain ⟨A7, c7, rfl⟩ := own_slice hown7
            have hcp7 : k + 1 + (n - k) ≤ c7 := own_cap2 hown7
            have hd7 := rd_own hown7
            go_wp2
            go_ret
            exact ⟨_, _, _, rfl, hcp7, by rw [HI.out]; exact hd7, by omega, hbx7⟩
          · have t1 : decide (y1 < x1) = false := by simp; omega
            have t2 : (y1 == x1) = false := by simpa using g1
            clear hxy2 t4
            go_wp2
            go_quiet (fail)
            have hB2 := unhide HB2 nq
            have hbx2 := unhide HX2 nq
            generalize nq = q1 at *
            have HB3 := hide (fun q => (show Blk ((wr.drewN q1).drewN q) w.heap.size 58 [.int .i64 x1, .int .i64 x2] from hB2))
            have HX3 := hide (fun q => below_drewN hbx2 q)
            go_wp2
            go_quiet (fail)
            have hB3 := unhide HB3 nq
            have hbx3 := unhide HX3 nq
            generalize (wr.drewN q1).drewN nq = wb at *
            have hTK := (unhide HRd wb hbx3).takeD (k := k) (by omega)
            have hz3 := hB3.lt
            clear HB2 HX2 HB3 HX3 hB2 hbx2 hB hbw b0 b1 hBl
            go_wp2_with (at_builtin; first
              | (refine wpList_app rfl (.tmp 56) (.tmp 59) _ rfl (w.heap.size + 1) slt_edge (n := 0) (xs := []) (m := k) (news := dcells (l.take k)) rfl (World.ownsRow_nil _ _ _ _) rfl hTK (oneD _) (by omega) (by omega) ?_; intro v5 w5 hown5 hg5 hb5 hat5 hne5; (rw [Nat.zero_add, List.nil_append] at hown5); obtain ⟨A5, c5, rfl⟩ := own_slice hown5; have e5 := hB3.below hb5 (by omega); have x0 := e5.cellS (i := 0) (v := .int .i64 x1) rfl; have x1' := e5.cellS (i := 1) (v := .int .i64 x2) rfl; have hbx5 := hbx3.trans (hb5.mono (by omega)); have hz5 := hb5.size)
              | (refine wpList_app rfl (.tmp 61) (.tmp 63) _ rfl (w.heap.size + 1) slt_edge (n := k) (xs := dcells (l.take k)) (m := 1) (news := dcells [(x1, x2)]) rfl (own_alloc hown5 _) rfl (rd_new' _ _ (dcells [(x1, x2)]) (by simp) rfl) (oneD _) (by omega) (by simp; omega) ?_; intro v6 w6 hown6 hg6 hb6 hat6 hne6; obtain ⟨A6, c6, rfl⟩ := own_slice hown6; have hbx6 := (hbx5.alloc hbx5.size (.cells (dcells [(x1, x2)]).toArray 58)).trans (hb6.mono (by omega)); (rw [← dcells_append] at hown6); have hz6 := hb6.size; have hz6' : w.heap.size + 1 ≤ w6.heap.size := (by simp at hz6; omega); have hTD := (unhide HRd w6 hbx6).dropD (k := k) hlt)
              | (refine wpList_app rfl (.tmp 65) (.tmp 68) _ rfl (w.heap.size + 1) slt_edge (n := k + 1) (xs := dcells (l.take k ++ [(x1, x2)])) (m := n - k) (news := dcells (l.drop k)) rfl hown6 rfl hTD (oneD _) (by omega) hz6' ?_; intro v7 w7 hown7 hg7 hb7 hat7 hne7))
            rw [← dcells_append, List.append_assoc] at hown7
            have hbx7 := hbx6.trans (hb7.mono (by omega))
            obtain ⟨A7, c7, rfl⟩ := own_slice hown7
            have hcp7 : k + 1 + (n - k) ≤ c7 := own_cap2 hown7
            have hd7 := rd_own hown7
            go_wp2
            go_ret
            exact ⟨_, _, _, rfl, hcp7, by rw [HI.out]; exact hd7, by omega, hbx7⟩
    · obtain rfl : n = k := by omega
      have HI : Hid (insS ltE (x1, x2) l = l.take n ++ ([(x1, x2)] ++ [])) := Lib.hid (by rw [HE.out, drop_end (by rw [HL.out]; omega)]; rfl)
      have j2 : decide (n < n) = false := by simp
      clear HE hlt
      by_cases hcn : c = n
      all_goals
        have hck : (c == n) = decide (c = n) := rfl
        go_wp2
        go_quiet (fail)
        have hB2 := unhide HB2 nq
        have hbx2 := unhide HX2 nq
        generalize nq = q1 at *
        have HB3 := hide (fun q => (show Blk ((wr.drewN q1).drewN q) w.heap.size 58 [.int .i64 x1, .int .i64 x2] from hB2))
        have HX3 := hide (fun q => below_drewN hbx2 q)
        go_wp2
        go_quiet (fail)
        have hB3 := unhide HB3 nq
        have hbx3 := unhide HX3 nq
        generalize (wr.drewN q1).drewN nq = wb at *
        have hTK := (unhide HRd wb hbx3).takeD (k := n) (Nat.le_refl _)
        have hz3 := hB3.lt
        clear HB2 HX2 HB3 HX3 hB2 hbx2 hB hbw b0 b1 hBl
        go_wp2_with (at_builtin; first
          | (refine wpList_app rfl (.tmp 56) (.tmp 59) _ rfl (w.heap.size + 1) slt_edge (n := 0) (xs := []) (m := n) (news := dcells (l.take n)) rfl (World.ownsRow_nil _ _ _ _) rfl hTK (oneD _) (by omega) (by omega) ?_; intro v5 w5 hown5 hg5 hb5 hat5 hne5; (rw [Nat.zero_add, List.nil_append] at hown5); obtain ⟨A5, c5, rfl⟩ := own_slice hown5; have e5 := hB3.below hb5 (by omega); have x0 := e5.cellS (i := 0) (v := .int .i64 x1) rfl; have x1' := e5.cellS (i := 1) (v := .int .i64 x2) rfl; have hbx5 := hbx3.trans (hb5.mono (by omega)); have hz5 := hb5.size)
          | (refine wpList_app rfl (.tmp 61) (.tmp 63) _ rfl (w.heap.size + 1) slt_edge (n := n) (xs := dcells (l.take n)) (m := 1) (news := dcells [(x1, x2)]) rfl (own_alloc hown5 _) rfl (rd_new' _ _ (dcells [(x1, x2)]) (by simp) rfl) (oneD _) (by omega) (by simp; omega) ?_; intro v6 w6 hown6 hg6 hb6 hat6 hne6; obtain ⟨A6, c6, rfl⟩ := own_slice hown6; have hbx6 := (hbx5.alloc hbx5.size (.cells (dcells [(x1, x2)]).toArray 58)).trans (hb6.mono (by omega)); (rw [← dcells_append] at hown6); have hz6 := hb6.size; have hz6' : w.heap.size + 1 ≤ w6.heap.size := (by simp at hz6; omega))
          | (refine wpList_app rfl (.tmp 65) (.tmp 68) _ rfl (w.heap.size + 1) slt_edge (n := n + 1) (xs := dcells (l.take n ++ [(x1, x2)])) (B := 0) (m := 0) (news := dcells []) rfl hown6 rfl Rd.nil (oneD _) (by omega) hz6' ?_; intro v7 w7 hown7 hg7 hb7 hat7 hne7))
        rw [← dcells_append, List.append_assoc] at hown7
        have hbx7 := hbx6.trans (hb7.mono (by omega))
        obtain ⟨A7, c7, rfl⟩ := own_slice hown7
        have hcp7 : n + 1 + 0 ≤ c7 := own_cap2 hown7
        have hd7 := rd_own hown7
        go_wp2
        go_ret
        exact ⟨_, _, _, rfl, hcp7, by rw [HI.out]; exact hd7, by omega, hbx7⟩
end Go.Proofs.YtmamejkdheigjaaGreatDoor


namespace Go.Proofs.YtmamejkdheigjaaGreatDoor
open Go.RowKit

end Go.Proofs.YtmamejkdheigjaaGreatDoor

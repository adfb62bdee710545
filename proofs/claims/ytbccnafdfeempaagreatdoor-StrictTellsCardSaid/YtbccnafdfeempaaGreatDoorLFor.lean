
/-
  CONTRACT of locks.For, Free of no deal, Waiting.
-/
import Derived.Test.YtbccnafdfeempaaGreatDoorQ17
import Derived.Test.YtbccnafdfeempaaGreatDoorQ8

namespace Go.Proofs.YtbccnafdfeempaaGreatDoor
open Go.RowKit

theorem takeWhile_idx {W : List HOp} {tx : Int} : (idxGo (fun y : HOp => decide (y.tx = tx)) 0 W < 0 ∧ W.takeWhile (notTx tx) = W) ∨ ∃ i : Nat, idxGo (fun y : HOp => decide (y.tx = tx)) 0 W = i ∧ i < W.length ∧ W.takeWhile (notTx tx) = W.take i := by
  rcases idxGo_spec (fun y : HOp => decide (y.tx = tx)) 0 W with ⟨h1, h2⟩ | ⟨i, o, h1, h2, h3, h4⟩
  · refine .inl ⟨by omega, ?_⟩
    have : ∀ x ∈ W, notTx tx x = true := fun x hx => by unfold notTx; rw [h1 x hx]; rfl
    have := List.takeWhile_append_of_pos (l₂ := []) this
    simpa using this
  · have hi := (List.getElem?_eq_some_iff.1 h1).1
    refine .inr ⟨i, by omega, hi, ?_⟩
    have e : W = W.take i ++ o :: W.drop (i + 1) := by rw [← drop_at h1]; exact (List.take_append_drop i W).symm
    have hp : ∀ x ∈ W.take i, notTx tx x = true := fun x hx => by unfold notTx; rw [h3 x hx]; rfl
    conv => lhs; rw [e]
    rw [List.takeWhile_append_of_pos hp, List.takeWhile_cons_of_neg (by unfold notTx; rw [h2]; simp), List.append_nil]
def forR (R : List HOp) (l : HOp) : List Int := (R.filter fun x => loddsB x l).map (·.tx)
theorem forR_step {R t : List HOp} {x l : HOp} (h : R = x :: t) : forR R l = if loddsB x l = true then x.tx :: forR t l else forR t l := by
  rw [h]
  unfold forR
  cases hp : loddsB x l
  · rw [List.filter_cons_of_neg (p := fun x => loddsB x l) (by simp [hp])]; simp
  · rw [List.filter_cons_of_pos (p := fun x => loddsB x l) hp]; simp
theorem rd_takeL {w : World} {B n : Nat} {A : Option Addr} {l : List HOp} (h : Rd w B 3 A n (cellsH l)) {k : Nat} (hk : k ≤ n) : Rd w B 3 A k (cellsH (l.take k)) := by
  have hl := h.hlen
  refine ⟨by rw [cellsH_length, List.length_take]; omega, fun hk0 => ?_⟩
  obtain ⟨b, off, e, hb, hc⟩ := h.2 (by omega)
  refine ⟨b, off, e, hb, fun j u hj => hc j u ?_⟩
  rw [← cellsH_take, List.getElem?_take] at hj
  split at hj
  · exact hj
  · cases hj

set_option maxRecDepth 100000 in
set_option maxHeartbeats 2000000 in
theorem lfor_walk (lo g : Nat) (v1 v2 : Value) (H W : List HOp) (l : HOp) (w : World) (T : Tab w lo g v1 v2 H W) (hh : H.length ≤ 100000) (hw : W.length ≤ 100000) (hR : lrightB l = true) :
    Calls Tryz.prog 65 #[.pointer (some ⟨g, 0, none⟩), l.val] w fun e w' => ∃ v, e = .returned (.tuple #[v, .nilIface]) ∧ w'.ownsRow w.heap.size 3 1 v (forF ⟨H, W⟩ l).length (cellsI (forF ⟨H, W⟩ l)) ∧ Below w.heap.size w w' := by
  obtain ⟨A1, c1, rfl⟩ := own_slice T.held
  obtain ⟨A2, c2, rfl⟩ := own_slice T.waits
  obtain ⟨l1, l2, l3⟩ := l
  have hb0 : Below w.heap.size w (w.alloc (.cells #[.int .i64 l1, .int .i64 l2, .int .i64 l3] 67)) := (Below.refl _ _).alloc (Nat.le_refl _) _
  have CR := hide (fun w1 => lright_any ⟨l1, l2, l3⟩ w1)
  have CW := hide (fun w1 (hb : Below w.heap.size w w1) => waiting_any lo g (.slice A1 H.length c1) (.slice A2 W.length c2) H W l1 w1 (T.below hb) (by omega))
  have hti := takeWhile_idx (W := W) (tx := l1)
  have hcap := (own_cap T.waits).2
  have hrH := rd_own T.held
  have hrW := rd_own T.waits
  obtain ⟨nh, hnh⟩ : ∃ nh, H.length = nh := ⟨_, rfl⟩
  obtain ⟨nw, hnw⟩ : ∃ nw, W.length = nw := ⟨_, rfl⟩
  have HNW := Lib.hid hnw
  have HTB := hide (fun w1 (hb : Below w.heap.size w w1) => (show Blk w1 g 72 [.slice A1 nh c1, .slice A2 nw c2] from by rw [← hnh, ← hnw]; exact T.blk.below hb T.blk.lt))
  rw [hnh] at hrH hh
  rw [hnw] at hrW hw hcap hti
  have HRH := hide (fun w1 (hb : Below w.heap.size w w1) => (hrH.below hb).more hb.size)
  have HRW := hide (fun w1 (hb : Below w.heap.size w w1) => (hrW.below hb).more hb.size)
  have hgl := T.blk.lt
  generalize hiw : idxGo (fun y : HOp => decide (y.tx = l1)) 0 W = iw at *
  clear hrH hrW hiw hnh hnw
  have HTI := Lib.hid hti
  clear hti
  unfold HOp.val at CR ⊢
  go_enter Tryz.func65, Tryz.ntmps65
  go_wp2_with fail
  refine (unhide CR _).mono ?_
  rintro e w1 ⟨rfl, hb1⟩
  rw [hR]
  have hbw := hb0.trans (hb1.mono hb0.size)
  have hB1 := lbox (by simpa using hb1)
  have m0 := hB1.cellS (i := 0) (v := .int .i64 l1) rfl
  have k1 := (unhide HTB _ hbw).cellS (i := 1) (v := .slice A2 nw c2) rfl
  clear hb1 hb0
  go_wp2_with fail
  refine (unhide CW _ hbw).mono ?_
  rintro e w2 ⟨rfl, hb2⟩
  have hbw2 := hbw.trans (hb2.mono hbw.size)
  have hB2 := hB1.below hb2 hB1.lt
  clear m0 hbw hB1 hb2 CW CR k1
  go_upto_if 24 with fail
  go_cut [6] (fun s6 wx => ∃ m : Nat, s6 = .slice A2 m c2 ∧ m ≤ nw ∧ Hid (W.takeWhile (notTx l1) = W.take m) ∧ w2 = wx)
  case first =>
    have k1 := (unhide HTB _ hbw2).cellS (i := 1) (v := .slice A2 nw c2) rfl
    rcases HTI.out with ⟨h1, h2⟩ | ⟨i, rfl, h1, h2⟩
    · have HX : Hid (W.takeWhile (notTx l1) = W.take nw) := Lib.hid (by rw [h2, List.take_of_length_le (by rw [HNW.out]; exact Nat.le_refl _)])
      clear h2
      go_wp2
      go_meet
      case rel => exact ⟨nw, rfl, Nat.le_refl _, HX, rfl⟩
    · have HX := Lib.hid h2
      have hic : i ≤ c2 := by omega
      clear h2
      go_wp2
      go_meet
      case rel => exact ⟨i, rfl, by omega, HX, rfl⟩
  case rest =>
    obtain ⟨m, rfl, hm, HX, rfl⟩ := hcut
    have k0 := (unhide HTB _ hbw2).cellS (i := 0) (v := .slice A1 nh c1) rfl
    have hbx : Below w2.heap.size w2 (w2.alloc (.cells #[.slice A1 nh c1, .slice A2 m c2] 38)) := (Below.refl _ _).alloc (Nat.le_refl _) _
    have hbw3 := hbw2.trans (hbx.mono hbw2.size)
    have hBB := Blk.new w2 38 [.slice A1 nh c1, .slice A2 m c2]
    have hrT : Rd (w2.alloc (.cells #[.slice A1 nh c1, .slice A2 m c2] 38)) (w2.alloc (.cells #[.slice A1 nh c1, .slice A2 m c2] 38)).heap.size 3 A2 m (cellsH (W.take m)) := by
      have h1 := unhide HRW _ hbw3
      exact rd_takeL h1 hm
    have CC := hide (concat_lock w2.heap.size A1 A2 nh c1 m c2 H (W.take m) _ hBB (unhide HRH _ hbw3) hrT (by omega) (by omega))
    have hB3 := hB2.below hbx hB2.lt
    have hbl := hB2.lt
    clear hbx hBB hrT hB2 hbw2 HTI
    go_wp2_with fail
    generalize w2.alloc (.cells #[.slice A1 nh c1, .slice A2 m c2] 38) = w3 at *
    refine (unhide CC).mono ?_
    rintro e w4 ⟨vR, rfl, hoR, hbR⟩
    have hbw4 := hbw3.trans (hbR.mono hbw3.size)
    have hB4 := hB3.below hbR hB3.lt
    obtain ⟨AR, cR, rfl⟩ := own_slice hoR
    have hrR := rd_own hoR
    have HLR := Lib.hid hrR.hlen
    have HRR := hide (fun w1 (hb : Below w4.heap.size w4 w1) => (hrR.below hb).more hb.size)
    have HBB := hide (fun w1 (hb : Below w4.heap.size w4 w1) => hB4.below hb hB4.lt)
    have HB4 := hide hbw4
    have hz4 := hbw4.size
    have hbl4 := hB4.lt
    have HF : Hid (forF ⟨H, W⟩ ⟨l1, l2, l3⟩ = sortS ltI (forR (H ++ W.take m) ⟨l1, l2, l3⟩)) := Lib.hid (by unfold forF; rw [HX.out]; rfl)
    generalize H ++ W.take m = R at *
    obtain ⟨nR, hnR⟩ : ∃ nR, nh + m = nR := ⟨_, rfl⟩
    rw [hnR] at HLR HRR ⊢
    have hnR2 : nR ≤ 200000 := by omega
    have hb44 : Below w4.heap.size w4 w4 := Below.refl _ _
    clear hoR hbR hrR hbw3 hB3 CC hB4 hbw4 hnR HX k0
    go_wp2
    go_loopw [8, 10, 39] (fun s8 s10 s39 wr => ∃ (k n8 : Nat) (acc : List Int), k ≤ nR ∧ s39 = .int .i64 k ∧ n8 ≤ k ∧ wr.ownsRow w4.heap.size 3 1 s8 n8 (cellsI acc) ∧ Hid (forR R ⟨l1, l2, l3⟩ = acc ++ forR (R.drop k) ⟨l1, l2, l3⟩) ∧ Below w4.heap.size w4 wr) (fun _ _ s39 _ => nR - (intOf s39).toNat)
    case atStart => exact ⟨0, 0, [], Nat.zero_le _, rfl, Nat.le_refl _, World.ownsRow_nil _ _ _ _, Lib.hid rfl, hb44⟩
    case round =>
      clear hb44
      obtain ⟨k, n8, acc, hk, rfl, hn8, ho8, HE, hbw⟩ := hrel
      obtain ⟨A8, c8, rfl⟩ := own_slice ho8
      by_cases hlt : k < nR
      · obtain ⟨b, off, x, he, hb, hx, x0, x1, x2⟩ := (unhide HRR wr hbw).op (k := k) hlt
        cases he
        have HS := Lib.hid (forR_step (l := ⟨l1, l2, l3⟩) (drop_at hx))
        have CO := hide (fun w1 => lodds_any x ⟨l1, l2, l3⟩ w1)
        obtain ⟨p1, p2, p3⟩ := x
        simp only at x0 x1 x2 HS
        unfold HOp.val at CO
        have hbx : Below wr.heap.size wr (wr.alloc (.cells #[.int .i64 p1, .int .i64 p2, .int .i64 p3] 67)) := (Below.refl _ _).alloc (Nat.le_refl _) _
        have hbwx := hbw.trans (hbx.mono hbw.size)
        have hox := own_below ho8 hbx (Nat.le_refl _)
        have hBx := Blk.new wr 67 [.int .i64 p1, .int .i64 p2, .int .i64 p3]
        obtain ⟨q0, q1, q2⟩ := ocells' hBx
        obtain ⟨m0, m1, m2⟩ := ocells' (unhide HBB _ hbwx)
        have hz := hbw.size
        clear hx hbx ho8 hbw
        go_wp2_with fail
        generalize wr.alloc (.cells #[.int .i64 p1, .int .i64 p2, .int .i64 p3] 67) = wy at *
        refine (unhide CO wy).mono ?_
        rintro e w5 ⟨rfl, hb5⟩
        have hbw5 := hbwx.trans (hb5.mono hbwx.size)
        have ho5 := own_below hox hb5 (Nat.le_refl _)
        have hB5 := hBx.below hb5 hBx.lt
        obtain ⟨q0, q1, q2⟩ := ocells' hB5
        have hz5 := hbw5.size
        clear hox hbwx hBx hb5 m0 m1 m2 CO
        cases hq : loddsB ⟨p1, p2, p3⟩ ⟨l1, l2, l3⟩
        · have HN : Hid (forR R ⟨l1, l2, l3⟩ = acc ++ forR (R.drop (k + 1)) ⟨l1, l2, l3⟩) := Lib.hid (by rw [HE.out, HS.out, hq]; rfl)
          go_wp2
          go_roundw
          case rel => exact ⟨k + 1, n8, acc, by omega, by go_num, by omega, ho5, HN, hbw5⟩
          case measure => simp [intOf]; omega
        · have HN : Hid (forR R ⟨l1, l2, l3⟩ = (acc ++ [p1]) ++ forR (R.drop (k + 1)) ⟨l1, l2, l3⟩) := Lib.hid (by rw [HE.out, HS.out, hq]; simp)
          go_wp2_with (at_builtin; (refine wpList_app rfl (.tmp 46) (.tmp 49) _ rfl w4.heap.size slt_int (n := n8) (xs := cellsI acc) (m := 1) (news := cellsI [p1]) rfl (own_alloc ho5 _) rfl (rd_new' _ _ (cellsI [p1]) (by simp) rfl) (oneI _) (by omega) (by simp; omega) ?_); intro v6 w6 hown6 hg6 hb6 hat6 hne6; obtain ⟨A6, c6, rfl⟩ := own_slice hown6)
          have hbw6 := (hbw5.alloc hbw5.size (.cells (cellsI [p1]).toArray 3)).trans hb6
          have hown7 : w6.ownsRow w4.heap.size 3 1 (.slice A6 (n8 + 1) c6) (n8 + 1) (cellsI (acc ++ [p1])) := by rw [show cellsI (acc ++ [p1]) = cellsI acc ++ cellsI [p1] by simp [cellsI]]; exact hown6
          clear hown6
          go_roundw
          case rel => exact ⟨k + 1, n8 + 1, acc ++ [p1], by omega, by go_num, by omega, hown7, HN, hbw6⟩
          case measure => simp [intOf]; omega
      · have HN : Hid (forR R ⟨l1, l2, l3⟩ = acc) := Lib.hid (by rw [HE.out, drop_end (by rw [HLR.out]; omega)]; simp [forR])
        have CS := hide (isort_own ho8 hbw.size (by omega))
        clear HE ho8
        go_wp2_with fail
        refine (unhide CS).mono ?_
        rintro e w5 ⟨rfl, ho5, _, hb5⟩
        have hbw5 := hbw.trans hb5
        have CP := hide (icompact_own ho5 hbw5.size)
        clear ho5 CS
        go_wp2_with fail
        refine (unhide CP).mono ?_
        rintro e w6 ⟨rfl, ho6, _, hb6⟩
        have hbw6 := hbw5.trans hb6
        have HFF : Hid (forF ⟨H, W⟩ ⟨l1, l2, l3⟩ = compL (sortI acc)) := Lib.hid (by rw [HF.out, HN.out]; exact (comp_sort sloI (fun x => sortI_mem) (sortI_up acc)).symm)
        have HO6 := hide ho6
        clear ho6 CP
        generalize compL (sortI acc) = OUT at *
        go_wp2
        go_ret2
        refine ⟨_, rfl, ?_, (unhide HB4).trans (hbw6.mono hz4)⟩
        rw [HFF.out]
        exact own_mono (unhide HO6) hz4
set_option maxHeartbeats 400000 in
theorem lfree_no (lo g : Nat) (v1 v2 : Value) (H W : List HOp) (tx : Int) (w : World) (_T : Tab w lo g v1 v2 H W) (htx : txB tx = false) :
    Calls Tryz.prog 36 #[.pointer (some ⟨g, 0, none⟩), .int .i64 tx] w fun e w' => e = .returned (.tuple #[.slice none 0 0, .iface 50 (.int .i64 1)]) ∧ Below w.heap.size w w' := by
  go_enter Tryz.func36, Tryz.ntmps36
  go_wp2_with (go_at_call 54; refine (tx_any _ _).mono ?_; rintro e w' ⟨rfl, rfl⟩; rw [htx])
  go_ret2
  exact ⟨rfl, (Below.refl _ _).alloc (Nat.le_refl _) _⟩
theorem rlodds_any (a b : HOp) (w : World) : Calls Tryz.prog 52 #[a.val, b.val] w fun e w' => e = .returned (.bool (loddsB a b)) ∧ Below w.heap.size w w' := by
  obtain ⟨x1, x2, x3⟩ := a
  obtain ⟨y1, y2, y3⟩ := b
  unfold HOp.val
  go_enter Tryz.func52, Tryz.ntmps52
  go_wp2
  all_goals
    go_ret
    refine ⟨ret_bool ?_, ((Below.refl _ _).alloc (Nat.le_refl _) _).alloc (by simp) _⟩
    rw [Bool.eq_iff_iff]
    simp_all [loddsB] <;> omega
theorem freeStep_len (s : FSt) (l : HOp) : (freeStep s l).H.length + (freeStep s l).left.length ≤ s.H.length + s.left.length + 1 := by
  unfold freeStep
  split
  · have := holdL_len s.H l
    simp only
    omega
  · simp; omega
theorem freeRun_len : ∀ (r : List HOp) (s : FSt), (r.foldl freeStep s).H.length + (r.foldl freeStep s).left.length ≤ s.H.length + s.left.length + r.length
  | [], _ => by simp
  | x :: r, s => by
    have h1 := freeRun_len r (freeStep s x)
    have h2 := freeStep_len s x
    simp only [List.foldl_cons, List.length_cons]
    omega
theorem freeT_len (T : LTab) (tx : Int) : (freeT T tx).H.length + (freeT T tx).W.length ≤ T.H.length + T.W.length := by
  have h1 := freeRun_len (T.W.filter (notTx tx)) ⟨T.H.filter (notTx tx), [], []⟩
  have h2 := List.length_filter_le (notTx tx) T.H
  have h3 := List.length_filter_le (notTx tx) T.W
  unfold freeT freeS
  simp only at h1 ⊢
  simp at h1
  omega
theorem askF_len (T : LTab) (l : HOp) : (askF T l).2.2.H.length + (askF T l).2.2.W.length ≤ T.H.length + T.W.length + 1 := by
  have h := holdL_len T.H l
  unfold askF
  split
  · simp only; omega
  · split
    · simp only; omega
    · split
      · simp only; omega
      · split
        · simp only; omega
        · simp only [List.length_append, List.length_singleton]; omega
theorem kept_below {w w' : World} {lo g : Nat} {v1 v2 v1' v2' : Value} {H W : List HOp} (T : Tab w lo g v1 v2 H W) (h : Kept w w' g v1 v2 v1' v2') (hlo : lo ≤ w.heap.size) : Below lo w w' :=
  h.1.below (fun k hk => by
    rcases hk with rfl | hk | hk
    · exact T.lo
    · exact (T.held.lt k hk).1
    · exact (T.waits.lt k hk).1) hlo
end Go.Proofs.YtbccnafdfeempaaGreatDoor


/-
  CONTRACT of the reference's laneref1.Table.For.
-/
import Derived.Test.YtbccnafdfeempaaGreatDoorRLock3
import Derived.Test.YtbccnafdfeempaaGreatDoorQ26

namespace Go.Proofs.YtbccnafdfeempaaGreatDoor
open Go.RowKit

theorem insS_le (x : Int) : ∀ l : List Int, (insS ltI x l).length ≤ l.length + 1
  | [] => by simp [insS]
  | y :: t => by
    have ih := insS_le x t
    rw [insS_step (l := y :: t) rfl]
    split
    · simp only [List.length_cons]; omega
    · split <;> simp only [List.length_cons] <;> omega
theorem forR_take {R : List HOp} {k : Nat} {x l : HOp} (h : R[k]? = some x) : forR (R.take (k + 1)) l = forR (R.take k) l ++ (if loddsB x l = true then [x.tx] else []) := by
  rw [List.take_add_one, h]
  unfold forR
  rw [List.filter_append, List.map_append]
  congr 1
  cases hp : loddsB x l <;> simp [hp]
theorem forR_app (R S : List HOp) (l : HOp) : forR (R ++ S) l = forR R l ++ forR S l := by
  unfold forR
  rw [List.filter_append, List.map_append]
theorem takeWhile_take {α : Type} {p : α → Bool} {W : List α} {k : Nat} (h1 : ∀ x ∈ W.take k, p x = true) (h2 : W.length ≤ k ∨ ∃ x, W[k]? = some x ∧ p x = false) : W.takeWhile p = W.take k := by
  have e : W = W.take k ++ W.drop k := (List.take_append_drop k W).symm
  conv => lhs; rw [e]
  rw [List.takeWhile_append_of_pos h1]
  rcases h2 with h2 | ⟨x, hx, hp⟩
  · rw [List.drop_eq_nil_of_le h2]; simp
  · rw [drop_at hx, List.takeWhile_cons_of_neg (by rw [hp]; simp), List.append_nil]
theorem all_take {α : Type} {p : α → Bool} {l : List α} {k : Nat} {x : α} (h : l[k]? = some x) (hp : p x = true) (h1 : ∀ y ∈ l.take k, p y = true) : ∀ y ∈ l.take (k + 1), p y = true := by
  intro y hy
  rw [List.take_add_one, h] at hy
  rcases List.mem_append.1 hy with hy | hy
  · exact h1 y hy
  · simp at hy; rw [hy]; exact hp

set_option maxRecDepth 100000 in
set_option maxHeartbeats 2000000 in
theorem rfor_any (lo g : Nat) (v1 v2 : Value) (H W : List HOp) (l : HOp) (w : World) (T : TabQ w lo g v1 v2 H W) (hh : H.length ≤ 200000) (hw : W.length ≤ 200000) :
    Calls Tryz.prog 33 #[.pointer (some ⟨g, 0, none⟩), l.val] w fun e w' => ∃ v, e = .returned v ∧ w'.ownsRow w.heap.size 3 1 v (forF ⟨H, W⟩ l).length (cellsI (forF ⟨H, W⟩ l)) ∧ Below w.heap.size w w' := by
  obtain ⟨A1, c1, rfl⟩ := own_slice T.held
  obtain ⟨A2, c2, rfl⟩ := own_slice T.waits
  have hb0 : Below w.heap.size w (w.alloc (.cells #[.int .i64 l.tx, .int .i64 l.what, .int .i64 l.item] 67)) := (Below.refl _ _).alloc (Nat.le_refl _) _
  have hB0 := Blk.new w 67 [.int .i64 l.tx, .int .i64 l.what, .int .i64 l.item]
  have CO := hide (fun (y : HOp) w1 => rlodds_any y l w1)
  obtain ⟨l1, l2, l3⟩ := l
  unfold HOp.val at CO ⊢
  simp only at hb0 hB0
  have HBB := hide (fun w1 (hb : Below (w.alloc (.cells #[.int .i64 l1, .int .i64 l2, .int .i64 l3] 67)).heap.size (w.alloc (.cells #[.int .i64 l1, .int .i64 l2, .int .i64 l3] 67)) w1) => hB0.below hb hB0.lt)
  have hz0 : (w.alloc (.cells #[.int .i64 l1, .int .i64 l2, .int .i64 l3] 67)).heap.size = w.heap.size + 1 := by simp
  have HZ := Lib.hid hz0
  have HB0 := hide hb0
  obtain ⟨nh, hnh⟩ : ∃ nh, H.length = nh := ⟨_, rfl⟩
  obtain ⟨nw, hnw⟩ : ∃ nw, W.length = nw := ⟨_, rfl⟩
  have HNH := Lib.hid hnh
  have HNW := Lib.hid hnw
  have hgl := T.blk.lt
  have HT := hide (fun w' (hb : Below w.heap.size w w') => T.below hb)
  rw [hnh] at hh
  rw [hnw] at hw
  clear hnh hnw hz0 hB0 hb0 T
  go_enter Tryz.func33, Tryz.ntmps33
  go_wp2
  generalize w.alloc (.cells #[.int .i64 l1, .int .i64 l2, .int .i64 l3] 67) = w0 at *
  have hbr : Below w0.heap.size w0 w0 := Below.refl _ _
  go_loopw [5, 6, 7] (fun s5 s6 _ wr => ∃ (k n5 : Nat) (acc : List Int), k ≤ nh ∧ n5 ≤ k ∧ s6 = .int .i64 k ∧ wr.ownsRow w0.heap.size 3 1 s5 n5 (cellsI acc) ∧ Hid (acc = sortS ltI (forR (H.take k) ⟨l1, l2, l3⟩)) ∧ Below w0.heap.size w0 wr) (fun _ s6 _ _ => nh - (intOf s6).toNat)
  case atStart => exact ⟨0, 0, [], Nat.zero_le _, Nat.le_refl _, rfl, World.ownsRow_nil _ _ _ _, Lib.hid rfl, hbr⟩
  case round =>
    clear hbr
    obtain ⟨k, n5, acc, hk, hn5, rfl, ho5, HA, hbw⟩ := hrel
    obtain ⟨A5, c5, rfl⟩ := own_slice ho5
    have hz := HZ.out
    have hbw0 := (unhide HB0).trans (hbw.mono (by omega))
    have hTr := unhide HT wr hbw0
    have hblk := hTr.blk
    rw [HNH.out, HNW.out] at hblk
    have k0 := hblk.cellS (i := 0) (v := .slice A1 nh c1) rfl
    by_cases hlt : k < nh
    · have hrd := rd_own hTr.held
      rw [HNH.out] at hrd
      obtain ⟨b, off, y, he, hb, hy, e0, e1, e2⟩ := hrd.op (k := k) hlt
      have HS := Lib.hid (forR_take (l := ⟨l1, l2, l3⟩) hy)
      have CO2 := hide (unhide CO y wr.drew)
      obtain ⟨qq, hqq⟩ : ∃ qq : Bool, loddsB y ⟨l1, l2, l3⟩ = qq := ⟨_, rfl⟩
      rw [hqq] at CO2
      rw [hqq] at HS
      obtain ⟨y1, y2, y3⟩ := y
      simp only at e0 e1 e2 CO2 HS
      obtain ⟨m0, m1, m2⟩ := ocells' (unhide HBB wr hbw)
      have n0 : (0 : Int) ≤ (k : Int) := by omega
      have n1 : (k : Int) < (nh : Int) := by omega
      have HHB := hide (fun w9 (hb9 : Below wr.drew.heap.size wr.drew w9) => (Below.refl wr.heap.size wr).drew.trans hb9)
      have HE0 := hide (fun w9 (hb9 : Below wr.heap.size wr w9) => Eq.trans (hb9.cell (by exact hb)) e0)
      have HO5 := hide (fun w9 (hb9 : Below wr.heap.size wr w9) => own_below ho5 hb9 (Nat.le_refl _))
      have HBL := hide (fun w9 (hb9 : Below wr.heap.size wr w9) => hblk.below hb9 hblk.lt)
      have HBW := hide (fun w9 (hb9 : Below wr.heap.size wr w9) => hbw.trans (hb9.mono hbw.size))
      clear hqq hy hrd hTr hblk ho5 hbw hbw0
      subst he
      go_wp2
      go_still_tail 8, (by kernel_rfl)
      change wpList _ _ _ _ _ wr.drew
      go_wp2_with fail
      refine (unhide CO2).mono ?_
      rintro e w9 ⟨rfl, hb9⟩
      have hd9 := unhide HHB _ hb9
      have f0 := unhide HE0 _ hd9
      have ho9 := unhide HO5 _ hd9
      have hBl9 := unhide HBL _ hd9
      have hbw9 := unhide HBW _ hd9
      have j0 := hBl9.cellS (i := 0) (v := .slice (some ⟨b, off, none⟩) nh c1) rfl
      clear k0 e0 e1 e2 m0 m1 m2 hb9 CO2 hBl9
      cases qq
      · have HA2 : Hid (acc = sortS ltI (forR (H.take (k + 1)) ⟨l1, l2, l3⟩)) := Lib.hid (by rw [HS.out]; simpa using HA.out)
        go_wp2
        go_roundw
        case rel => exact ⟨k + 1, n5, acc, by omega, by omega, by go_num, ho9, HA2, hbw9⟩
        case measure => simp [intOf]; omega
      · have HA2 : Hid (insS ltI y1 acc = sortS ltI (forR (H.take (k + 1)) ⟨l1, l2, l3⟩)) := Lib.hid (by rw [HS.out, if_pos rfl, sortS_snoc, ← HA.out])
        have hal := (rd_own ho9).ilen
        have hil := insS_le y1 acc
        have CP := hide (rput_any A5 n5 c5 acc y1 w9 (rd_own ho9) (by omega))
        have hs9 := hbw9.size
        clear ho9
        go_wp2_with fail
        refine (unhide CP).mono ?_
        rintro e w11 ⟨v, rfl, ho11, hb11⟩
        have ho12 := own_mono ho11 hs9
        have hbw11 := hbw9.trans (hb11.mono hs9)
        clear ho11 hb11 CP f0 j0
        go_wp2
        go_roundw
        case rel => exact ⟨k + 1, _, _, by omega, by omega, by go_num, ho12, HA2, hbw11⟩
        case measure => simp [intOf]; omega
    · have HA1 : Hid (acc = sortS ltI (forR (H ++ W.take 0) ⟨l1, l2, l3⟩)) := Lib.hid (by
        have h1 := HA.out
        rw [List.take_of_length_le (l := H) (by rw [HNH.out]; omega)] at h1
        rw [List.take_zero, List.append_nil]; exact h1)
      have hn9 : n5 ≤ nh + 0 := by omega
      clear HA hTr hblk hbw0
      go_wp2
      obtain ⟨wo, rfl⟩ : ∃ wo : World, wo = wr := ⟨_, rfl⟩
      go_loopw [5, 8, 9] (fun s5 s8 _ wr => ∃ (k n5 : Nat) (acc : List Int), k ≤ nw ∧ n5 ≤ nh + k ∧ s8 = .int .i64 k ∧ wr.ownsRow w0.heap.size 3 1 s5 n5 (cellsI acc) ∧ Hid (acc = sortS ltI (forR (H ++ W.take k) ⟨l1, l2, l3⟩)) ∧ Hid (∀ x ∈ W.take k, notTx l1 x = true) ∧ Below w0.heap.size w0 wr) (fun _ s8 _ _ => nw - (intOf s8).toNat)
      case atStart => exact ⟨0, n5, acc, Nat.zero_le _, hn9, rfl, ho5, HA1, Lib.hid (fun x hx => by simp at hx), hbw⟩
      case round =>
        clear ho5 HA1 hbw hn9 k0 hn5 hlt hk
        obtain ⟨k, n5, acc, hk, hn5, rfl, ho5, HA, HN, hbw⟩ := hrel
        obtain ⟨A5, c5, rfl⟩ := own_slice ho5
        have hbw0 := (unhide HB0).trans (hbw.mono (by omega))
        have hTr := unhide HT wr hbw0
        have hblk := hTr.blk
        rw [HNH.out, HNW.out] at hblk
        have k1 := hblk.cellS (i := 1) (v := .slice A2 nw c2) rfl
        obtain ⟨m0, m1, m2⟩ := ocells' (unhide HBB wr hbw)
        have HEND := hide (fun (h2 : W.length ≤ k ∨ ∃ x, W[k]? = some x ∧ notTx l1 x = false) => (show forF ⟨H, W⟩ ⟨l1, l2, l3⟩ = acc from by
          have h1 := takeWhile_take HN.out h2
          unfold forF
          rw [show (⟨l1, l2, l3⟩ : HOp).tx = l1 from rfl, show (⟨H, W⟩ : LTab).W = W from rfl, h1]
          exact HA.out.symm))
        have HOW := hide (fun q => (show (wr.drewN q).ownsRow w.heap.size 3 1 (.slice A5 n5 c5) n5 (cellsI acc) ∧ Below w.heap.size w (wr.drewN q) from ⟨own_mono ho5 (by omega), below_drewN hbw0 q⟩))
        by_cases hlt : k < nw
        · have hrd := rd_own hTr.waits
          rw [HNW.out] at hrd
          obtain ⟨b, off, y, he, hb, hy, e0, e1, e2⟩ := hrd.op (k := k) hlt
          have n0 : (0 : Int) ≤ (k : Int) := by omega
          have n1 : (k : Int) < (nw : Int) := by omega
          have n2 : decide ((k : Int) < (nw : Int)) = true := decide_eq_true n1
          by_cases hyt : y.tx = l1
          · have HF := Lib.hid (unhide HEND (.inr ⟨y, hy, by unfold notTx; rw [hyt]; simp⟩))
            obtain ⟨y1, y2, y3⟩ := y
            simp only at e0 e1 e2 hyt
            have t1 : (y1 == l1) = true := by simp [hyt]
            have t2 : (y1 != l1) = false := by simp [hyt]
            have t3 : (!(y1 == l1)) = false := by simp [hyt]
            clear hyt hy hrd hTr hblk hbw hbw0 ho5 HEND
            subst he
            go_wp2
            go_quiet (fail)
            go_wp2
            go_ret
            obtain ⟨h1, h2⟩ := unhide HOW nq
            refine ⟨_, rfl, ?_, h2⟩
            rw [HF.out, (rd_own h1).ilen]; exact h1
          · have HN2 : Hid (∀ x ∈ W.take (k + 1), notTx l1 x = true) := Lib.hid (all_take hy (by unfold notTx; simp [hyt]) HN.out)
            have HS := Lib.hid (forR_take (l := ⟨l1, l2, l3⟩) hy)
            have CO2 := hide (fun w9 => unhide CO y w9)
            obtain ⟨qq, hqq⟩ : ∃ qq : Bool, loddsB y ⟨l1, l2, l3⟩ = qq := ⟨_, rfl⟩
            rw [hqq] at CO2
            rw [hqq] at HS
            have hnt : ¬ y.tx = l1 := hyt
            obtain ⟨y1, y2, y3⟩ := y
            simp only at e0 e1 e2 CO2 HS hnt
            have t1 : (y1 == l1) = false := by simp [hnt]
            have t2 : (y1 != l1) = true := by simp [hnt]
            have t3 : (!(y1 == l1)) = true := by simp [hnt]
            have HHB := hide (fun q w9 (hb9 : Below (wr.drewN q).drew.heap.size (wr.drewN q).drew w9) => (below_drewN (Below.refl wr.heap.size wr) q).drew.trans hb9)
            have HE0 := hide (fun w9 (hb9 : Below wr.heap.size wr w9) => Eq.trans (hb9.cell (by exact hb)) e0)
            have HO5 := hide (fun w9 (hb9 : Below wr.heap.size wr w9) => own_below ho5 hb9 (Nat.le_refl _))
            have HBL := hide (fun w9 (hb9 : Below wr.heap.size wr w9) => hblk.below hb9 hblk.lt)
            have HBW := hide (fun w9 (hb9 : Below wr.heap.size wr w9) => hbw.trans (hb9.mono hbw.size))
            clear hqq hyt hnt hy hrd hTr hblk hbw hbw0 ho5 HEND HOW
            subst he
            go_wp2
            go_quiet (fail)
            go_wp2
            have HHQ := hide (unhide HHB nq)
            have k1q : (wr.drewN nq).cell? ⟨g, 1, none⟩ = some (.slice (some ⟨b, off, none⟩) nw c2) := k1
            have e0q := (show (wr.drewN nq).cell? _ = _ from e0)
            have e1q := (show (wr.drewN nq).cell? _ = _ from e1)
            have e2q := (show (wr.drewN nq).cell? _ = _ from e2)
            have m0q := (show (wr.drewN nq).cell? _ = _ from m0)
            have m1q := (show (wr.drewN nq).cell? _ = _ from m1)
            have m2q := (show (wr.drewN nq).cell? _ = _ from m2)
            clear k1 e0 e1 e2 m0 m1 m2 HHB
            generalize wr.drewN nq = wq at *
            go_still_tail 8, (by kernel_rfl)
            change wpList _ _ _ _ _ wq.drew
            go_wp2_with fail
            refine (unhide CO2 _).mono ?_
            rintro e w9 ⟨rfl, hb9⟩
            have hd9 := unhide HHQ _ hb9
            have f0 := unhide HE0 _ hd9
            have ho9 := unhide HO5 _ hd9
            have hBl9 := unhide HBL _ hd9
            have hbw9 := unhide HBW _ hd9
            have j1 := hBl9.cellS (i := 1) (v := .slice (some ⟨b, off, none⟩) nw c2) rfl
            clear k1q e0q e1q e2q m0q m1q m2q hb9 CO2 hBl9 HHQ
            cases qq
            · have HA2 : Hid (acc = sortS ltI (forR (H ++ W.take (k + 1)) ⟨l1, l2, l3⟩)) := Lib.hid (by rw [forR_app, HS.out, ← List.append_assoc, ← forR_app]; simpa using HA.out)
              go_wp2
              go_roundw
              case rel => exact ⟨k + 1, n5, acc, by omega, by omega, by go_num, ho9, HA2, HN2, hbw9⟩
              case measure => simp [intOf]; omega
            · have HA2 : Hid (insS ltI y1 acc = sortS ltI (forR (H ++ W.take (k + 1)) ⟨l1, l2, l3⟩)) := Lib.hid (by rw [forR_app, HS.out, if_pos rfl, ← List.append_assoc, sortS_snoc, ← forR_app, ← HA.out])
              have hal := (rd_own ho9).ilen
              have hil := insS_le y1 acc
              have CP := hide (rput_any A5 n5 c5 acc y1 w9 (rd_own ho9) (by omega))
              have hs9 := hbw9.size
              clear ho9
              go_wp2_with fail
              refine (unhide CP).mono ?_
              rintro e w11 ⟨v, rfl, ho11, hb11⟩
              have ho12 := own_mono ho11 hs9
              have hbw11 := hbw9.trans (hb11.mono hs9)
              clear ho11 hb11 CP f0 j1
              go_wp2
              go_roundw
              case rel => exact ⟨k + 1, _, _, by omega, by omega, by go_num, ho12, HA2, HN2, hbw11⟩
              case measure => simp [intOf]; omega
        · have HF := Lib.hid (unhide HEND (.inl (by rw [HNW.out]; omega)))
          have n2 : decide ((k : Int) < (nw : Int)) = false := decide_eq_false (by omega)
          clear hTr hblk hbw hbw0 ho5 HEND
          go_wp2
          go_quiet (fail)
          go_wp2
          go_ret
          obtain ⟨h1, h2⟩ := unhide HOW nq
          refine ⟨_, rfl, ?_, h2⟩
          rw [HF.out, (rd_own h1).ilen]; exact h1
end Go.Proofs.YtbccnafdfeempaaGreatDoor

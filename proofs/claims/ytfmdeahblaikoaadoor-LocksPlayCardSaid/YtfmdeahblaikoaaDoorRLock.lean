
/-
  CONTRACTS of the reference's laneref1.Lock, clear0, Table.Waiting, without.
-/
import Derived.Test.YtfmdeahblaikoaaDoorLFor
import Derived.Test.YtfmdeahblaikoaaDoorPieces
import Derived.StillTailTactics
import Derived.Deep.QuietTactic

namespace Go.Proofs.YtfmdeahblaikoaaDoor
open Go.RowKit

/-- A table of the reference's: who is held (row v1), who waits (row v2). -/
structure TabQ (w : World) (lo g : Nat) (v1 v2 : Value) (H W : List HOp) : Prop where
  blk : Blk w g 40 [v1, v2]
  held : w.ownsRow lo 35 3 v1 H.length (cellsH H)
  waits : w.ownsRow lo 35 3 v2 W.length (cellsH W)
  ne : ∀ k, v1.ownBlock = some k → v2.ownBlock ≠ some k
  lo : lo ≤ g
theorem TabQ.below {w w' : World} {lo g : Nat} {v1 v2 : Value} {H W : List HOp} (h : TabQ w lo g v1 v2 H W) (hb : Below w.heap.size w w') : TabQ w' lo g v1 v2 H W :=
  ⟨h.blk.below hb h.blk.lt, own_below h.held hb (Nat.le_refl _), own_below h.waits hb (Nat.le_refl _), h.ne, h.lo⟩
theorem TabQ.chg {S : Nat → Prop} {w w' : World} {lo g : Nat} {v1 v2 : Value} {H W : List HOp} (h : TabQ w lo g v1 v2 H W) (hc : Chg S w w') (h0 : ¬ S g) (h1 : ∀ k, v1.ownBlock = some k → ¬ S k) (h2 : ∀ k, v2.ownBlock = some k → ¬ S k) : TabQ w' lo g v1 v2 H W :=
  ⟨h.blk.chg hc h0, own_chg h.held hc h1, own_chg h.waits hc h2, h.ne, h.lo⟩
theorem Tab.chg {S : Nat → Prop} {w w' : World} {lo g : Nat} {v1 v2 : Value} {H W : List HOp} (h : Tab w lo g v1 v2 H W) (hc : Chg S w w') (h0 : ¬ S g) (h1 : ∀ k, v1.ownBlock = some k → ¬ S k) (h2 : ∀ k, v2.ownBlock = some k → ¬ S k) : Tab w' lo g v1 v2 H W :=
  ⟨h.blk.chg hc h0, own_chg h.held hc h1, own_chg h.waits hc h2, h.ne, h.lo⟩

theorem rlock_any (o : HOp) (w : World) : Calls Tryd.prog 16 #[o.val] w fun e w' => e = .returned (.bool (lrightB o)) ∧ Below w.heap.size w w' := by
  obtain ⟨tx, what, item⟩ := o
  have CX := hide (fun w1 => rtx_any tx w1)
  have CY := hide (fun w1 => rtx_any what w1)
  obtain ⟨p, hp⟩ : ∃ p : Bool, txB tx = p := ⟨_, rfl⟩
  obtain ⟨q, hq⟩ : ∃ q : Bool, txB what = q := ⟨_, rfl⟩
  rw [hp] at CX
  rw [hq] at CY
  have HE : Hid (lrightB ⟨tx, what, item⟩ = (p && (q && decide (item = 1 ∨ item = 2)))) := Lib.hid (by unfold lrightB; rw [hp, hq])
  have hi : item = 1 ∨ item = 2 ∨ ((item == 1) = false ∧ (item == 2) = false ∧ item ≠ 1 ∧ item ≠ 2) := by
    by_cases h1 : item = 1
    · exact .inl h1
    · by_cases h2 : item = 2
      · exact .inr (.inl h2)
      · exact .inr (.inr ⟨by simpa using h1, by simpa using h2, h1, h2⟩)
  clear hp hq
  unfold HOp.val
  cases p <;> cases q <;> rcases hi with rfl | rfl | ⟨h1, h2, h3, h4⟩
  all_goals
    go_enter Tryd.func16, Tryd.ntmps16
    go_wp2_with fail
    refine (unhide CX _).mono ?_
    rintro e w1 ⟨rfl, rfl⟩
    go_wp2_with fail
    refine (unhide CY _).mono ?_
    rintro e w1 ⟨rfl, rfl⟩
    go_wp2
    go_ret
    refine ⟨by rw [HE.out]; simp_all, (Below.refl _ _).alloc (Nat.le_refl _) _⟩

theorem any_take {α : Type} {p : α → Bool} {l : List α} {k : Nat} {x : α} (h : l[k]? = some x) : (l.take (k + 1)).any p = ((l.take k).any p || p x) := by
  rw [List.take_add_one, h, List.any_append]
  simp
set_option maxRecDepth 100000 in
set_option maxHeartbeats 1000000 in
theorem clear0_any (A : Option Addr) (n c : Nat) (l : List HOp) (x : HOp) (w : World) (hr : Rd w w.heap.size 3 A n (cellsH l)) (hm : n ≤ 1000000) :
    Calls Tryd.prog 42 #[.slice A n c, x.val] w fun e w' => e = .returned (.bool (freeB l x)) ∧ Below w.heap.size w w' := by
  have HL := Lib.hid hr.hlen
  have HR := hide (fun w1 (hb : Below w.heap.size w w1) => hr.below hb)
  have hb0 : Below w.heap.size w (w.alloc (.cells #[.int .i64 x.tx, .int .i64 x.what, .int .i64 x.item] 35)) := (Below.refl _ _).alloc (Nat.le_refl _) _
  have hB0 := Blk.new w 35 [.int .i64 x.tx, .int .i64 x.what, .int .i64 x.item]
  have CO := hide (fun (y : HOp) w1 => rlodds_any y x w1)
  obtain ⟨x1, x2, x3⟩ := x
  unfold HOp.val at CO ⊢
  simp only at hb0 hB0 CO
  have HBB := hide (fun w1 (hb : Below (w.alloc (.cells #[.int .i64 x1, .int .i64 x2, .int .i64 x3] 35)).heap.size (w.alloc (.cells #[.int .i64 x1, .int .i64 x2, .int .i64 x3] 35)) w1) => hB0.below hb hB0.lt)
  have hz0 : (w.alloc (.cells #[.int .i64 x1, .int .i64 x2, .int .i64 x3] 35)).heap.size = w.heap.size + 1 := by simp
  have HZ := Lib.hid hz0
  have HB0 := hide hb0
  clear hr hB0 hb0 hz0
  go_enter Tryd.func42, Tryd.ntmps42
  go_wp2
  generalize w.alloc (.cells #[.int .i64 x1, .int .i64 x2, .int .i64 x3] 35) = w0 at *
  go_loopw [5, 6] (fun s5 _ wr => ∃ k : Nat, k ≤ n ∧ s5 = .int .i64 k ∧ Hid ((l.take k).any (loddsB ⟨x1, x2, x3⟩) = false) ∧ Below w0.heap.size w0 wr) (fun s5 _ _ => n - (intOf s5).toNat)
  case atStart => exact ⟨0, Nat.zero_le _, rfl, Lib.hid rfl, Below.refl _ _⟩
  case round =>
    obtain ⟨k, hk, rfl, HN, hbw⟩ := hrel
    have hz := HZ.out
    have hbw0 := (unhide HB0).trans (hbw.mono (by omega))
    by_cases hlt : k < n
    · obtain ⟨b, off, y, he, hb, hy, c0, c1, c2⟩ := (unhide HR wr hbw0).op (k := k) hlt
      cases he
      have HA := Lib.hid (any_take (p := loddsB ⟨x1, x2, x3⟩) hy)
      have CO2 := hide (unhide CO y wr.drew)
      rw [lodds_comm] at CO2
      have hBx := unhide HBB wr hbw
      obtain ⟨m0, m1, m2⟩ := ocells' hBx
      obtain ⟨qq, hqq⟩ : ∃ qq : Bool, loddsB ⟨x1, x2, x3⟩ y = qq := ⟨_, rfl⟩
      rw [hqq] at CO2 HA
      obtain ⟨y1, y2, y3⟩ := y
      simp only at c0 c1 c2 CO2
      have n0 : (0 : Int) ≤ (k : Int) := by omega
      have n1 : (k : Int) < (n : Int) := by omega
      have hbd : Below w0.heap.size w0 wr.drew := hbw.drew
      have HB0' := hbw0
      clear hqq hy hBx hb
      go_wp2
      go_still_tail 5, (by kernel_rfl)
      change wpList _ _ _ _ _ wr.drew
      go_wp2_with fail
      refine (unhide CO2).mono ?_
      rintro e w9 ⟨rfl, hb9⟩
      have hb10 := hbd.trans (hb9.mono hbd.size)
      have hbw10 := (unhide HB0).trans (hb10.mono (by omega))
      clear hb9 hbd c0 c1 c2 m0 m1 m2
      cases qq
      · have HN2 : Hid ((l.take (k + 1)).any (loddsB ⟨x1, x2, x3⟩) = false) := Lib.hid (by rw [HA.out, HN.out]; rfl)
        go_wp2
        go_roundw
        case rel => exact ⟨k + 1, by omega, by go_num, HN2, hb10⟩
        case measure => simp [intOf]; omega
      · have HN2 : Hid (freeB l ⟨x1, x2, x3⟩ = false) := Lib.hid (by
          have h1 : (l.take (k + 1)).any (loddsB ⟨x1, x2, x3⟩) = true := by rw [HA.out, HN.out]; rfl
          obtain ⟨z, hz1, hz2⟩ := List.any_eq_true.1 h1
          have : l.any (loddsB ⟨x1, x2, x3⟩) = true := List.any_eq_true.2 ⟨z, List.mem_of_mem_take hz1, hz2⟩
          unfold freeB; rw [this]; rfl)
        go_wp2
        go_ret
        exact ⟨by rw [HN2.out]; rfl, hbw10⟩
    · have HN2 : Hid (freeB l ⟨x1, x2, x3⟩ = true) := Lib.hid (by
        have h1 := HN.out
        rw [List.take_of_length_le (l := l) (by rw [HL.out]; omega)] at h1
        unfold freeB; rw [h1]; rfl)
      go_wp2
      go_ret
      exact ⟨by rw [HN2.out]; rfl, hbw0⟩

theorem idxGo_step {α : Type} {p : α → Bool} {k : Int} {l t : List α} {x : α} (h : l = x :: t) : idxGo p k l = if p x then k else idxGo p (k + 1) t := by rw [h]; rfl
theorem idxGo_end {α : Type} {p : α → Bool} {k : Int} {l : List α} (h : l = []) : idxGo p k l = -1 := by rw [h]; rfl
set_option maxRecDepth 100000 in
set_option maxHeartbeats 1000000 in
theorem rwaiting_any (lo g : Nat) (v1 v2 : Value) (H W : List HOp) (tx : Int) (w : World) (T : TabQ w lo g v1 v2 H W) (hw : W.length ≤ 1000000) :
    Calls Tryd.prog 50 #[.pointer (some ⟨g, 0, none⟩), .int .i64 tx] w fun e w' => e = .returned (.int .i64 (idxGo (fun y => decide (y.tx = tx)) 0 W)) ∧ w = w' := by
  obtain ⟨A2, c2, rfl⟩ := own_slice T.waits
  have hr := rd_own T.waits
  obtain ⟨n, hn⟩ : ∃ n, W.length = n := ⟨_, rfl⟩
  have hblk := T.blk
  rw [hn] at hr hblk
  have k1 := hblk.cellS (i := 1) (v := .slice A2 n c2) rfl
  have hgl := hblk.lt
  have hn9 : n ≤ 1000000 := by omega
  have HN := Lib.hid hn
  have HR := hide hr
  have HE : Hid (idxGo (fun y : HOp => decide (y.tx = tx)) 0 W = idxGo (fun y : HOp => decide (y.tx = tx)) ((0 : Nat) : Int) (W.drop 0)) := Lib.hid rfl
  generalize idxGo (fun y : HOp => decide (y.tx = tx)) 0 W = R at *
  clear hr hblk hn T
  go_enter Tryd.func50, Tryd.ntmps50
  go_wp2
  go_loop [5] (fun s5 => ∃ k : Nat, k ≤ n ∧ s5 = .int .i64 k ∧ Hid (R = idxGo (fun y : HOp => decide (y.tx = tx)) (k : Int) (W.drop k))) (fun s5 => n - (intOf s5).toNat)
  case atStart => exact ⟨0, Nat.zero_le _, rfl, HE⟩
  case round =>
    clear HE
    obtain ⟨k, hk, rfl, HE⟩ := hrel
    by_cases hlt : k < n
    · obtain ⟨b, off, y, he, hb, hy, c0, c1, c2'⟩ := (unhide HR).op (k := k) hlt
      cases he
      have HS := Lib.hid (idxGo_step (p := fun y : HOp => decide (y.tx = tx)) (k := (k : Int)) (drop_at hy))
      obtain ⟨y1, y2, y3⟩ := y
      simp only at c0 HS
      clear c1 c2' hy
      by_cases ht : y1 = tx
      · have t1 : (y1 == tx) = true := by simp [ht]
        have HF : Hid (R = (k : Int)) := Lib.hid (by rw [HE.out, HS.out, if_pos (by simpa using ht)])
        clear ht
        go_wp2
        go_ret
        exact ⟨ret_int HF.out.symm, rfl⟩
      · have t1 : (y1 == tx) = false := by simp [ht]
        have HF : Hid (R = idxGo (fun y : HOp => decide (y.tx = tx)) ((k + 1 : Nat) : Int) (W.drop (k + 1))) := Lib.hid (by rw [HE.out, HS.out, if_neg (by simpa using ht)]; rfl)
        clear ht
        go_wp2
        go_round
        case rel => exact ⟨k + 1, by omega, by go_num, HF⟩
        case measure => simp [intOf]; omega
    · have HF : Hid (R = -1) := Lib.hid (by rw [HE.out]; exact idxGo_end (drop_end (by rw [HN.out]; omega)))
      go_wp2
      go_ret
      exact ⟨ret_int HF.out.symm, rfl⟩

set_option maxRecDepth 100000 in
set_option maxHeartbeats 1000000 in
theorem rwithout_any (A : Option Addr) (n c : Nat) (l : List HOp) (tx : Int) (w : World) (hr : Rd w w.heap.size 3 A n (cellsH l)) (hm : n ≤ 1000000) :
    Calls Tryd.prog 41 #[.slice A n c, .int .i64 tx] w fun e w' => ∃ v, e = .returned v ∧ w'.ownsRow w.heap.size 35 3 v (l.filter (notTx tx)).length (cellsH (l.filter (notTx tx))) ∧ Below w.heap.size w w' := by
  have HL := Lib.hid hr.hlen
  have HR := hide (fun w1 (hb : Below w.heap.size w w1) => hr.below hb)
  have hb0 : Below w.heap.size w w := Below.refl _ _
  clear hr
  go_enter Tryd.func41, Tryd.ntmps41
  go_wp2
  go_loopw [5, 6] (fun s5 s6 wr => ∃ (k m : Nat) (acc : List HOp), k ≤ n ∧ s6 = .int .i64 k ∧ m ≤ k ∧ wr.ownsRow w.heap.size 35 3 s5 m (cellsH acc) ∧ Hid (acc = (l.take k).filter (notTx tx)) ∧ Below w.heap.size w wr) (fun _ s6 _ => n - (intOf s6).toNat)
  case atStart => exact ⟨0, 0, [], Nat.zero_le _, rfl, Nat.le_refl _, World.ownsRow_nil _ _ _ _, Lib.hid rfl, hb0⟩
  case round =>
    clear hb0
    obtain ⟨k, m, acc, hk, rfl, hmk, ho, HA, hbw⟩ := hrel
    obtain ⟨A5, c5, rfl⟩ := own_slice ho
    by_cases hlt : k < n
    · obtain ⟨b, off, y, he, hb, hy, c0, c1, c2⟩ := (unhide HR wr hbw).op (k := k) hlt
      cases he
      have HS : Hid ((l.take (k + 1)).filter (notTx tx) = acc ++ (if notTx tx y = true then [y] else [])) := Lib.hid (by
        rw [List.take_add_one, hy, List.filter_append, ← HA.out]
        congr 1
        cases hp : notTx tx y <;> simp [hp])
      obtain ⟨y1, y2, y3⟩ := y
      simp only at c0 c1 c2
      have hz := hbw.size
      clear hy
      by_cases ht : y1 = tx
      · have t1 : (y1 != tx) = false := by simp [ht]
        have HF : Hid (acc = (l.take (k + 1)).filter (notTx tx)) := Lib.hid (by rw [HS.out, if_neg (by simp [notTx, ht]), List.append_nil])
        clear ht
        go_wp2
        go_roundw
        case rel => exact ⟨k + 1, m, acc, by omega, by go_num, by omega, ho, HF, hbw⟩
        case measure => simp [intOf]; omega
      · have t1 : (y1 != tx) = true := by simp [ht]
        have HF : Hid (acc ++ [⟨y1, y2, y3⟩] = (l.take (k + 1)).filter (notTx tx)) := Lib.hid (by rw [HS.out, if_pos (by simp [notTx, ht])])
        clear ht
        go_wp2_with (at_builtin; (refine wpList_app rfl (.tmp 20) (.tmp 25) _ rfl w.heap.size slt_lock (n := m) (xs := cellsH acc) (m := 1) (news := cellsH [⟨y1, y2, y3⟩]) rfl (own_alloc ho _) rfl (rd_new' _ _ (cellsH [⟨y1, y2, y3⟩]) (by simp) rfl) (oneH _) (by omega) (by simp; omega) ?_); intro v7 w7 hown7 hg7 hb7 hat7 hne7; obtain ⟨A7, c7, rfl⟩ := own_slice hown7)
        have hb8 := (hbw.alloc hz (.cells (cellsH [⟨y1, y2, y3⟩]).toArray 35)).trans hb7
        rw [← cellsH_append] at hown7
        go_roundw
        case rel => exact ⟨k + 1, m + 1, _, by omega, by go_num, by omega, hown7, HF, hb8⟩
        case measure => simp [intOf]; omega
    · have HF : Hid (acc = l.filter (notTx tx)) := Lib.hid (by rw [HA.out, List.take_of_length_le (l := l) (by rw [HL.out]; omega)])
      have hml : acc.length = m := (rd_own ho).hlen
      have HO := hide ho
      have HM := Lib.hid hml
      clear ho hml
      go_wp2
      go_ret
      refine ⟨_, rfl, ?_, hbw⟩
      rw [← HF.out, HM.out]
      exact unhide HO
end Go.Proofs.YtfmdeahblaikoaaDoor

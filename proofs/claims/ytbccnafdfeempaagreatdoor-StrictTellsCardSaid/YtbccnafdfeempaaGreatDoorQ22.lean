
/-
  CONTRACTS of the reference's laneref1.Lock, clear0, Table.Waiting, without.
  CONTRACTS of the reference's laneref1.Table.hold and Ask.
-/
import Derived.Test.YtbccnafdfeempaaGreatDoorLFor
import Derived.Test.YtbccnafdfeempaaGreatDoorPieces
import Derived.StillTailTactics
import Derived.Deep.QuietTactic
import Derived.Deep.RegionLaw
import Derived.RegionTactic
import Derived.BigRegion

namespace Go.Proofs.YtbccnafdfeempaaGreatDoor
open Go.RowKit

/-- A table of the reference's: who is held (row v1), who waits (row v2). -/
structure TabQ (w : World) (lo g : Nat) (v1 v2 : Value) (H W : List HOp) : Prop where
  blk : Blk w g 40 [v1, v2]
  held : w.ownsRow lo 67 3 v1 H.length (cellsH H)
  waits : w.ownsRow lo 67 3 v2 W.length (cellsH W)
  ne : ∀ k, v1.ownBlock = some k → v2.ownBlock ≠ some k
  lo : lo ≤ g
theorem TabQ.below {w w' : World} {lo g : Nat} {v1 v2 : Value} {H W : List HOp} (h : TabQ w lo g v1 v2 H W) (hb : Below w.heap.size w w') : TabQ w' lo g v1 v2 H W :=
  ⟨h.blk.below hb h.blk.lt, own_below h.held hb (Nat.le_refl _), own_below h.waits hb (Nat.le_refl _), h.ne, h.lo⟩
theorem TabQ.chg {S : Nat → Prop} {w w' : World} {lo g : Nat} {v1 v2 : Value} {H W : List HOp} (h : TabQ w lo g v1 v2 H W) (hc : Chg S w w') (h0 : ¬ S g) (h1 : ∀ k, v1.ownBlock = some k → ¬ S k) (h2 : ∀ k, v2.ownBlock = some k → ¬ S k) : TabQ w' lo g v1 v2 H W :=
  ⟨h.blk.chg hc h0, own_chg h.held hc h1, own_chg h.waits hc h2, h.ne, h.lo⟩
theorem Tab.chg {S : Nat → Prop} {w w' : World} {lo g : Nat} {v1 v2 : Value} {H W : List HOp} (h : Tab w lo g v1 v2 H W) (hc : Chg S w w') (h0 : ¬ S g) (h1 : ∀ k, v1.ownBlock = some k → ¬ S k) (h2 : ∀ k, v2.ownBlock = some k → ¬ S k) : Tab w' lo g v1 v2 H W :=
  ⟨h.blk.chg hc h0, own_chg h.held hc h1, own_chg h.waits hc h2, h.ne, h.lo⟩

theorem rlock_any (o : HOp) (w : World) : Calls Tryz.prog 29 #[o.val] w fun e w' => e = .returned (.bool (lrightB o)) ∧ Below w.heap.size w w' := by
  obtain ⟨tx, what, item⟩ := o
  have CX := hide (fun w1 => rtx_any tx w1)
  have CY := hide (fun w1 => rtx_any what w1)
  obtain ⟨p, hp⟩ : ∃ p : Bool, txB tx = p := ⟨_, rfl⟩
  obtain ⟨q, hq⟩ : ∃ q : Bool, txB what = q := ⟨_, rfl⟩
  rw [hp] at CX
  rw [hq] at CY
  have HE : Hid (lrightB ⟨tx, what, item⟩ = (p && (q && decide (item = 1 ∨ item = 2)))) := Lib.hid (by unfold lrightB; rw [hp, hq])
  have hi : item = 1 ∨ item = 2 ∨ ((item == 1) = false ∧ (item == 2) = false ∧ item ≠ 1 ∧ item ≠ 2) := by
    by_cases h1 : item = 1
    · exact .inl h1
    · by_cases h2 : item = 2
      · exact .inr (.inl h2)
      · exact .inr (.inr ⟨by simpa using h1, by simpa using h2, h1, h2⟩)
  clear hp hq
  unfold HOp.val
  cases p <;> cases q <;> rcases hi with rfl | rfl | ⟨h1, h2, h3, h4⟩
  all_goals
    go_enter Tryz.func29, Tryz.ntmps29
    go_wp2_with fail
    refine (unhide CX _).mono ?_
    rintro e w1 ⟨rfl, rfl⟩
    go_wp2_with fail
    refine (unhide CY _).mono ?_
    rintro e w1 ⟨rfl, rfl⟩
    go_wp2
    go_ret
    refine ⟨by rw [HE.out]; simp_all, (Below.refl _ _).alloc (Nat.le_refl _) _⟩

theorem any_take {α : Type} {p : α → Bool} {l : List α} {k : Nat} {x : α} (h : l[k]? = some x) : (l.take (k + 1)).any p = ((l.take k).any p || p x) := by
  rw [List.take_add_one, h, List.any_append]
  simp
set_option maxRecDepth 100000 in
set_option maxHeartbeats 1000000 in
theorem clear0_any (A : Option Addr) (n c : Nat) (l : List HOp) (x : HOp) (w : World) (hr : Rd w w.heap.size 3 A n (cellsH l)) (hm : n ≤ 1000000) :
    Calls Tryz.prog 31 #[.slice A n c, x.val] w fun e w' => e = .returned (.bool (freeB l x)) ∧ Below w.heap.size w w' := by
  have HL := Lib.hid hr.hlen
  have HR := hide (fun w1 (hb : Below w.heap.size w w1) => hr.below hb)
  have hb0 : Below w.heap.size w (w.alloc (.cells #[.int .i64 x.tx, .int .i64 x.what, .int .i64 x.item] 67)) := (Below.refl _ _).alloc (Nat.le_refl _) _
  have hB0 := Blk.new w 67 [.int .i64 x.tx, .int .i64 x.what, .int .i64 x.item]
  have CO := hide (fun (y : HOp) w1 => rlodds_any y x w1)
  obtain ⟨x1, x2, x3⟩ := x
  unfold HOp.val at CO ⊢
  simp only at hb0 hB0 CO
  have HBB := hide (fun w1 (hb : Below (w.alloc (.cells #[.int .i64 x1, .int .i64 x2, .int .i64 x3] 67)).heap.size (w.alloc (.cells #[.int .i64 x1, .int .i64 x2, .int .i64 x3] 67)) w1) => hB0.below hb hB0.lt)
  have hz0 : (w.alloc (.cells #[.int .i64 x1, .int .i64 x2, .int .i64 x3] 67)).heap.size = w.heap.size + 1 := by simp
  have HZ := Lib.hid hz0
  have HB0 := hide hb0
  clear hr hB0 hb0 hz0
  go_enter Tryz.func31, Tryz.ntmps31
  go_wp2
  generalize w.alloc (.cells #[.int .i64 x1, .int .i64 x2, .int .i64 x3] 67) = w0 at *
  go_loopw [5, 6] (fun s5 _ wr => ∃ k : Nat, k ≤ n ∧ s5 = .int .i64 k ∧ Hid ((l.take k).any (loddsB ⟨x1, x2, x3⟩) = false) ∧ Below w0.heap.size w0 wr) (fun s5 _ _ => n - (intOf s5).toNat)
  case atStart => exact ⟨0, Nat.zero_le _, rfl, Lib.hid rfl, Below.refl _ _⟩
  case round =>
    obtain ⟨k, hk, rfl, HN, hbw⟩ := hrel
    have hz := HZ.out
    have hbw0 := (unhide HB0).trans (hbw.mono (by omega))
    by_cases hlt : k < n
    · obtain ⟨b, off, y, he, hb, hy, c0, c1, c2⟩ := (unhide HR wr hbw0).op (k := k) hlt
      cases he
      have HA := Lib.hid (any_take (p := loddsB ⟨x1, x2, x3⟩) hy)
      have CO2 := hide (unhide CO y wr.drew)
      rw [lodds_comm] at CO2
      have hBx := unhide HBB wr hbw
      obtain ⟨m0, m1, m2⟩ := ocells' hBx
      obtain ⟨qq, hqq⟩ : ∃ qq : Bool, loddsB ⟨x1, x2, x3⟩ y = qq := ⟨_, rfl⟩
      rw [hqq] at CO2 HA
      obtain ⟨y1, y2, y3⟩ := y
      simp only at c0 c1 c2 CO2
      have n0 : (0 : Int) ≤ (k : Int) := by omega
      have n1 : (k : Int) < (n : Int) := by omega
      have hbd : Below w0.heap.size w0 wr.drew := hbw.drew
      have HB0' := hbw0
      clear hqq hy hBx hb
      go_wp2
      go_still_tail 5, (by kernel_rfl)
      change wpList _ _ _ _ _ wr.drew
      go_wp2_with fail
      refine (unhide CO2).mono ?_
      rintro e w9 ⟨rfl, hb9⟩
      have hb10 := hbd.trans (hb9.mono hbd.size)
      have hbw10 := (unhide HB0).trans (hb10.mono (by omega))
      clear hb9 hbd c0 c1 c2 m0 m1 m2
      cases qq
      · have HN2 : Hid ((l.take (k + 1)).any (loddsB ⟨x1, x2, x3⟩) = false) := Lib.hid (by rw [HA.out, HN.out]; rfl)
        go_wp2
        go_roundw
        case rel => exact ⟨k + 1, by omega, by go_num, HN2, hb10⟩
        case measure => simp [intOf]; omega
      · have HN2 : Hid (freeB l ⟨x1, x2, x3⟩ = false) := Lib.hid (by
          have h1 : (l.take (k + 1)).any (loddsB ⟨x1, x2, x3⟩) = true := by rw [HA.out, HN.out]; rfl
          obtain ⟨z, hz1, hz2⟩ := List.any_eq_true.1 h1
          have : l.any (loddsB ⟨x1, x2, x3⟩) = true := List.any_eq_true.2 ⟨z, List.mem_of_mem_take hz1, hz2⟩
          unfold freeB; rw [this]; rfl)
        go_wp2
        go_ret
        exact ⟨by rw [HN2.out]; rfl, hbw10⟩
    · have HN2 : Hid (freeB l ⟨x1, x2, x3⟩ = true) := Lib.hid (by
        have h1 := HN.out
        rw [List.take_of_length_le (l := l) (by rw [HL.out]; omega)] at h1
        unfold freeB; rw [h1]; rfl)
      go_wp2
      go_ret
      exact ⟨by rw [HN2.out]; rfl, hbw0⟩

theorem idxGo_step {α : Type} {p : α → Bool} {k : Int} {l t : List α} {x : α} (h : l = x :: t) : idxGo p k l = if p x then k else idxGo p (k + 1) t := by rw [h]; rfl
theorem idxGo_end {α : Type} {p : α → Bool} {k : Int} {l : List α} (h : l = []) : idxGo p k l = -1 := by rw [h]; rfl
set_option maxRecDepth 100000 in
set_option maxHeartbeats 1000000 in
theorem rwaiting_any (lo g : Nat) (v1 v2 : Value) (H W : List HOp) (tx : Int) (w : World) (T : TabQ w lo g v1 v2 H W) (hw : W.length ≤ 1000000) :
    Calls Tryz.prog 30 #[.pointer (some ⟨g, 0, none⟩), .int .i64 tx] w fun e w' => e = .returned (.int .i64 (idxGo (fun y => decide (y.tx = tx)) 0 W)) ∧ w = w' := by
  obtain ⟨A2, c2, rfl⟩ := own_slice T.waits
  have hr := rd_own T.waits
  obtain ⟨n, hn⟩ : ∃ n, W.length = n := ⟨_, rfl⟩
  have hblk := T.blk
  rw [hn] at hr hblk
  have k1 := hblk.cellS (i := 1) (v := .slice A2 n c2) rfl
  have hgl := hblk.lt
  have hn9 : n ≤ 1000000 := by omega
  have HN := Lib.hid hn
  have HR := hide hr
  have HE : Hid (idxGo (fun y : HOp => decide (y.tx = tx)) 0 W = idxGo (fun y : HOp => decide (y.tx = tx)) ((0 : Nat) : Int) (W.drop 0)) := Lib.hid rfl
  generalize idxGo (fun y : HOp => decide (y.tx = tx)) 0 W = R at *
  clear hr hblk hn T
  go_enter Tryz.func30, Tryz.ntmps30
  go_wp2
  go_loop [5] (fun s5 => ∃ k : Nat, k ≤ n ∧ s5 = .int .i64 k ∧ Hid (R = idxGo (fun y : HOp => decide (y.tx = tx)) (k : Int) (W.drop k))) (fun s5 => n - (intOf s5).toNat)
  case atStart => exact ⟨0, Nat.zero_le _, rfl, HE⟩
  case round =>
    clear HE
    obtain ⟨k, hk, rfl, HE⟩ := hrel
    by_cases hlt : k < n
    · obtain ⟨b, off, y, he, hb, hy, c0, c1, c2'⟩ := (unhide HR).op (k := k) hlt
      cases he
      have HS := Lib.hid (idxGo_step (p := fun y : HOp => decide (y.tx = tx)) (k := (k : Int)) (drop_at hy))
      obtain ⟨y1, y2, y3⟩ := y
      simp only at c0 HS
      clear c1 c2' hy
      by_cases ht : y1 = tx
      · have t1 : (y1 == tx) = true := by simp [ht]
        have HF : Hid (R = (k : Int)) := Lib.hid (by rw [HE.out, HS.out, if_pos (by simpa using ht)])
        clear ht
        go_wp2
        go_ret
        exact ⟨ret_int HF.out.symm, rfl⟩
      · have t1 : (y1 == tx) = false := by simp [ht]
        have HF : Hid (R = idxGo (fun y : HOp => decide (y.tx = tx)) ((k + 1 : Nat) : Int) (W.drop (k + 1))) := Lib.hid (by rw [HE.out, HS.out, if_neg (by simpa using ht)]; rfl)
        clear ht
        go_wp2
        go_round
        case rel => exact ⟨k + 1, by omega, by go_num, HF⟩
        case measure => simp [intOf]; omega
    · have HF : Hid (R = -1) := Lib.hid (by rw [HE.out]; exact idxGo_end (drop_end (by rw [HN.out]; omega)))
      go_wp2
      go_ret
      exact ⟨ret_int HF.out.symm, rfl⟩

set_option maxRecDepth 100000 in
set_option maxHeartbeats 1000000 in
theorem rwithout_any (A : Option Addr) (n c : Nat) (l : List HOp) (tx : Int) (w : World) (hr : Rd w w.heap.size 3 A n (cellsH l)) (hm : n ≤ 1000000) :
    Calls Tryz.prog 51 #[.slice A n c, .int .i64 tx] w fun e w' => ∃ v, e = .returned v ∧ w'.ownsRow w.heap.size 67 3 v (l.filter (notTx tx)).length (cellsH (l.filter (notTx tx))) ∧ Below w.heap.size w w' := by
  have HL := Lib.hid hr.hlen
  have HR := hide (fun w1 (hb : Below w.heap.size w w1) => hr.below hb)
  have hb0 : Below w.heap.size w w := Below.refl _ _
  clear hr
  go_enter Tryz.func51, Tryz.ntmps51
  go_wp2
  go_loopw [5, 6] (fun s5 s6 wr => ∃ (k m : Nat) (acc : List HOp), k ≤ n ∧ s6 = .int .i64 k ∧ m ≤ k ∧ wr.ownsRow w.heap.size 67 3 s5 m (cellsH acc) ∧ Hid (acc = (l.take k).filter (notTx tx)) ∧ Below w.heap.size w wr) (fun _ s6 _ => n - (intOf s6).toNat)
  case atStart => exact ⟨0, 0, [], Nat.zero_le _, rfl, Nat.le_refl _, World.ownsRow_nil _ _ _ _, Lib.hid rfl, hb0⟩
  case round =>
    clear hb0
    obtain ⟨k, m, acc, hk, rfl, hmk, ho, HA, hbw⟩ := hrel
    obtain ⟨A5, c5, rfl⟩ := own_slice ho
    by_cases hlt : k < n
    · obtain ⟨b, off, y, he, hb, hy, c0, c1, c2⟩ := (unhide HR wr hbw).op (k := k) hlt
      cases he
      have HS : Hid ((l.take (k + 1)).filter (notTx tx) = acc ++ (if notTx tx y = true then [y] else [])) := Lib.hid (by
        rw [List.take_add_one, hy, List.filter_append, ← HA.out]
        congr 1
        cases hp : notTx tx y <;> simp [hp])
      obtain ⟨y1, y2, y3⟩ := y
      simp only at c0 c1 c2
      have hz := hbw.size
      clear hy
      by_cases ht : y1 = tx
      · have t1 : (y1 != tx) = false := by simp [ht]
        have HF : Hid (acc = (l.take (k + 1)).filter (notTx tx)) := Lib.hid (by rw [HS.out, if_neg (by simp [notTx, ht]), List.append_nil])
        clear ht
        go_wp2
        go_roundw
        case rel => exact ⟨k + 1, m, acc, by omega, by go_num, by omega, ho, HF, hbw⟩
        case measure => simp [intOf]; omega
      · have t1 : (y1 != tx) = true := by simp [ht]
        have HF : Hid (acc ++ [⟨y1, y2, y3⟩] = (l.take (k + 1)).filter (notTx tx)) := Lib.hid (by rw [HS.out, if_pos (by simp [notTx, ht])])
        clear ht
        go_wp2_with (at_builtin; (refine wpList_app rfl (.tmp 20) (.tmp 25) _ rfl w.heap.size slt_lock (n := m) (xs := cellsH acc) (m := 1) (news := cellsH [⟨y1, y2, y3⟩]) rfl (own_alloc ho _) rfl (rd_new' _ _ (cellsH [⟨y1, y2, y3⟩]) (by simp) rfl) (oneH _) (by omega) (by simp; omega) ?_); intro v7 w7 hown7 hg7 hb7 hat7 hne7; obtain ⟨A7, c7, rfl⟩ := own_slice hown7)
        have hb8 := (hbw.alloc hz (.cells (cellsH [⟨y1, y2, y3⟩]).toArray 67)).trans hb7
        rw [← cellsH_append] at hown7
        go_roundw
        case rel => exact ⟨k + 1, m + 1, _, by omega, by go_num, by omega, hown7, HF, hb8⟩
        case measure => simp [intOf]; omega
    · have HF : Hid (acc = l.filter (notTx tx)) := Lib.hid (by rw [HA.out, List.take_of_length_le (l := l) (by rw [HL.out]; omega)])
      have hml : acc.length = m := (rd_own ho).hlen
      have HO := hide ho
      have HM := Lib.hid hml
      clear ho hml
      go_wp2
      go_ret
      refine ⟨_, rfl, ?_, hbw⟩
      rw [← HF.out, HM.out]
      exact unhide HO
end Go.Proofs.YtbccnafdfeempaaGreatDoor


namespace Go.Proofs.YtbccnafdfeempaaGreatDoor
open Go.RowKit

/-- What hold leaves of a table of the reference's. -/
def HoldPostQ (w : World) (lo g : Nat) (v1 v2 : Value) (H W : List HOp) (l : HOp) (e : Ending) (w' : World) : Prop :=
  ∃ v v1', e = .returned v ∧ TabQ w' lo g v1' v2 (holdL H l) W ∧ Chg (fun k => k = g ∨ v1.ownBlock = some k) w w' ∧ (v1'.ownBlock = v1.ownBlock ∨ ∃ k, v1'.ownBlock = some k ∧ w.heap.size ≤ k)

theorem holdL_at {H : List HOp} {l o : HOp} {k : Nat} (hk : H[k]? = some o) (hp : ofP l.tx l.what o = true) (hn : ∀ x ∈ H.take k, ofP l.tx l.what x = false) : holdL H l = H.set k l := by
  obtain ⟨h1, h2⟩ := List.getElem?_eq_some_iff.1 hk
  have : H.findIdx? (ofP l.tx l.what) = some k := by
    rw [List.findIdx?_eq_some_iff_getElem]
    refine ⟨h1, by rw [h2]; exact hp, fun j hj => ?_⟩
    have hm : H[j]'(by omega) ∈ H.take k := by
      rw [List.mem_iff_getElem?]
      exact ⟨j, by rw [List.getElem?_take, if_pos hj, List.getElem?_eq_getElem]⟩
    simp [hn _ hm]
  unfold holdL
  rw [this]
theorem holdL_none {H : List HOp} {l : HOp} (hn : ∀ x ∈ H, ofP l.tx l.what x = false) : holdL H l = H ++ [l] := by
  unfold holdL
  rw [List.findIdx?_eq_none_iff.2 (fun x hx => by simp [hn x hx])]
theorem take_no {α : Type} {p : α → Bool} {l : List α} {k : Nat} {x : α} (h : l[k]? = some x) (hp : p x = false) (hn : ∀ y ∈ l.take k, p y = false) : ∀ y ∈ l.take (k + 1), p y = false := by
  intro y hy
  rw [List.take_add_one, h] at hy
  rcases List.mem_append.1 hy with hy | hy
  · exact hn y hy
  · have : y = x := by simpa using hy
    rw [this]; exact hp

set_option maxRecDepth 100000 in
set_option maxHeartbeats 2000000 in
theorem rhold_any (lo g : Nat) (v1 v2 : Value) (H W : List HOp) (l : HOp) (w : World) (T : TabQ w lo g v1 v2 H W) (hm : H.length ≤ 1000000) (hlo : lo ≤ w.heap.size) :
    Calls Tryz.prog 32 #[.pointer (some ⟨g, 0, none⟩), l.val] w (HoldPostQ w lo g v1 v2 H W l) := by
  obtain ⟨A1, c1, rfl⟩ := own_slice T.held
  obtain ⟨l1, l2, l3⟩ := l
  have hgl := T.blk.lt
  have hB0 := Blk.new w 67 [.int .i64 l1, .int .i64 l2, .int .i64 l3]
  have hT0 := T.below ((Below.refl _ _).alloc (Nat.le_refl _) (.cells #[.int .i64 l1, .int .i64 l2, .int .i64 l3] 67))
  have hb0 : Below w.heap.size w (w.alloc (.cells #[.int .i64 l1, .int .i64 l2, .int .i64 l3] 67)) := (Below.refl _ _).alloc (Nat.le_refl _) _
  obtain ⟨nh, hnh⟩ : ∃ nh, H.length = nh := ⟨_, rfl⟩
  have HNH := Lib.hid hnh
  rw [hnh] at hm
  unfold HOp.val
  clear hnh
  go_enter Tryz.func32, Tryz.ntmps32
  go_wp2
  generalize w.alloc (.cells #[.int .i64 l1, .int .i64 l2, .int .i64 l3] 67) = w1 at *
  have HT := hide (fun w' (hb : Below w1.heap.size w1 w') => hT0.below hb)
  have HB := hide (fun w' (hb : Below w1.heap.size w1 w') => hB0.below hb hB0.lt)
  have hgl1 := hT0.blk.lt
  have hbl1 := hB0.lt
  clear hT0 hB0 T
  go_loopw [4] (fun s4 wr => ∃ k : Nat, k ≤ nh ∧ s4 = .int .i64 k ∧ Hid (∀ x ∈ H.take k, ofP l1 l2 x = false) ∧ Below w1.heap.size w1 wr) (fun s4 _ => nh - (intOf s4).toNat)
  case atStart => exact ⟨0, Nat.zero_le _, rfl, Lib.hid (fun x hx => by simp at hx), Below.refl _ _⟩
  case round =>
    obtain ⟨k, hk, rfl, HN, hbw⟩ := hrel
    have hTr := unhide HT wr hbw
    have hBr := unhide HB wr hbw
    have hblk := hTr.blk
    rw [HNH.out] at hblk
    have k0 := hblk.cellS (i := 0) (v := .slice A1 nh c1) rfl
    obtain ⟨m0, m1, m2⟩ := ocells' hBr
    by_cases hlt : k < nh
    · have hrd := rd_own hTr.held
      rw [HNH.out] at hrd
      obtain ⟨b, off, y, he, hb, hy, c0, c1', c2⟩ := hrd.op (k := k) hlt
      have HY := Lib.hid hy
      have HA1 := Lib.hid he
      obtain ⟨y1, y2, y3⟩ := y
      simp only at c0 c1' c2
      have n0 : (0 : Int) ≤ (k : Int) := by omega
      have n1 : (k : Int) < (nh : Int) := by omega
      by_cases h1 : y1 = l1
      · have t1 : (y1 == l1) = true := by simp [h1]
        by_cases h2 : y2 = l2
        · have t2 : (y2 == l2) = true := by simp [h2]
          have HL : Hid (holdL H ⟨l1, l2, l3⟩ = H.set k ⟨l1, l2, l3⟩) := Lib.hid (holdL_at hy (by simp [ofP, h1, h2]) HN.out)
          have HDD := hide (fun N => below_drewN hbw N)
          clear h1 h2 hTr hBr hblk hrd hy hbw
          subst he
          go_wp2
          go_quiet (fail)
          have hbq := unhide HDD nq
          have hT2 := unhide HT _ hbq
          have hB2 := unhide HB _ hbq
          clear k0 m0 m1 m2 c0 c1' c2 HDD
          generalize wr.drewN nq = w2 at *
          have hblk2 := hT2.blk
          have hheld2 := hT2.held
          rw [HNH.out] at hblk2 hheld2
          obtain ⟨g1, hg1⟩ : ∃ g1, (some (⟨b, off, none⟩ : Addr)) = some ⟨g1, 0, none⟩ := by
            rcases hheld2.2 with ⟨_, h0⟩ | ⟨g1, _, _, hv, _⟩
            · omega
            · injection hv with hA; exact ⟨g1, hA⟩
          injection hg1 with hg1
          injection hg1 with e1 e2
          subst e1 e2
          have k0' := hblk2.cellS (i := 0) (v := .slice (some ⟨b, 0, none⟩) nh c1) rfl
          obtain ⟨m0', m1', m2'⟩ := ocells' hB2
          have hlen := hheld2.1
          rw [cellsH_length] at hlen
          have D : ∀ j, j < nh * 3 → ∃ v, w2.cell? ⟨b, j, none⟩ = some v := fun j hj => ⟨_, (hheld2.cellAt j (by omega)).trans (List.getElem?_eq_getElem (by rw [cellsH_length]; omega))⟩
          obtain ⟨x0, d0⟩ := D (k * 3) (by omega)
          obtain ⟨x1, d1⟩ := D (k * 3 + 1) (by omega)
          obtain ⟨x2, d2⟩ := D (k * 3 + 2) (by omega)
          have e0 := hheld2.frozenAt (k * 3)
          have e1 := hheld2.frozenAt (k * 3 + 1)
          have e2 := hheld2.frozenAt (k * 3 + 2)
          have hgg : g ≠ b := fun e => blk_no_row hblk2 hheld2 (by decide) (by rw [e]; rfl)
          have hne2 : ∀ j, v2.ownBlock = some j → j ≠ b := fun j hj e => hT2.ne b rfl (by rw [← e]; exact hj)
          have st : ∀ (wx : World) (q : Nat) (u : Value), wx.ownsRow lo 67 3 v2 W.length (cellsH W) → (wx.setCell ⟨b, q, none⟩ u).ownsRow lo 67 3 v2 W.length (cellsH W) := fun wx q u h =>
            h.kept (row := some b) ⟨rfl, rfl, rfl, by simp [World.setCell], fun j _ hj => Below.heap_setCell wx _ u j (fun e => hj (by rw [e]))⟩ (by
              cases hv : v2.ownBlock with
              | none => exact .inl rfl
              | some k2 => exact .inr (fun e => hne2 k2 hv (by injection e)))
          have hw2 := st _ (k * 3 + 2) (.int .i64 l3) (st _ (k * 3 + 1) (.int .i64 l2) (st _ (k * 3) (.int .i64 l1) hT2.waits))
          have hh2 := own_set3 hheld2 k ⟨l1, l2, l3⟩
          simp only at hh2
          have hblk3 := (((hblk2.far (p := ⟨b, k * 3, none⟩) hgg (.int .i64 l1)).far (p := ⟨b, k * 3 + 1, none⟩) hgg (.int .i64 l2)).far (p := ⟨b, k * 3 + 2, none⟩) hgg (.int .i64 l3)).drew
          have hc2 : Chg (fun j => j = g ∨ (Value.slice (some ⟨b, 0, none⟩) H.length c1).ownBlock = some j) w w2 := (Chg.of_below hb0).trans ((Chg.of_below hbq).mono fun j hj => .inl hj)
          have hc3 := (((hc2.set (p := ⟨b, k * 3, none⟩) (.inl (.inr rfl)) (.int .i64 l1)).set (p := ⟨b, k * 3 + 1, none⟩) (.inl (.inr rfl)) (.int .i64 l2)).set (p := ⟨b, k * 3 + 2, none⟩) (.inl (.inr rfl)) (.int .i64 l3)).drew
          have HALL := hide (And.intro hw2.drew (And.intro hh2.drew (And.intro hblk3 hc3)))
          have HNE := Lib.hid hT2.ne
          have HLO := Lib.hid hT2.lo
          clear hw2 hh2 hblk3 hc3 hc2 st D hT2 hB2 hblk2 hheld2 hlen
          go_wp2_with fail
          go_region
          all_goals
            go_wp2
            go_end0
            refine ⟨_, .slice (some ⟨b, 0, none⟩) nh c1, rfl, ⟨(unhide HALL).2.2.1, ?_, (unhide HALL).1, HNE.out, HLO.out⟩, (unhide HALL).2.2.2, .inl rfl⟩
            rw [HL.out, List.length_set, HNH.out]
            exact (unhide HALL).2.1
        · have t2 : (y2 == l2) = false := by simp [h2]
          have HN2 : Hid (∀ x ∈ H.take (k + 1), ofP l1 l2 x = false) := Lib.hid (take_no hy (by simp [ofP, h2]) HN.out)
          clear h1 h2 hTr hBr hblk hrd hy
          subst he
          go_wp2
          go_quiet (fail)
          go_wp2
          go_roundw
          case rel => exact ⟨k + 1, by omega, by go_num, HN2, below_drewN hbw _⟩
          case measure => simp [intOf]; omega
      · have t1 : (y1 == l1) = false := by simp [h1]
        have HN2 : Hid (∀ x ∈ H.take (k + 1), ofP l1 l2 x = false) := Lib.hid (take_no hy (by simp [ofP, h1]) HN.out)
        clear h1 hTr hBr hblk hrd hy
        subst he
        go_wp2
        go_quiet (fail)
        go_wp2
        go_roundw
        case rel => exact ⟨k + 1, by omega, by go_num, HN2, below_drewN hbw _⟩
        case measure => simp [intOf]; omega
    · have HL : Hid (holdL H ⟨l1, l2, l3⟩ = H ++ [⟨l1, l2, l3⟩]) := Lib.hid (holdL_none (fun x hx => HN.out x (by rw [List.take_of_length_le (l := H) (by rw [HNH.out]; omega)]; exact hx)))
      have h1c : ∀ u ∈ cellsH [⟨l1, l2, l3⟩], u.oneCell' = true := oneH _
      have hheld := hTr.held
      rw [HNH.out] at hheld
      have hg2 := hblk.lt
      have hz2 := hbw.size
      have hs2 : lo ≤ wr.heap.size := Nat.le_trans hlo (Nat.le_trans hb0.size hbw.size)
      have hsz2 : w.heap.size ≤ wr.heap.size := Nat.le_trans hb0.size hbw.size
      have kf := hblk.frozen 0
      have k0a := (World.cell?_alloc_lt wr (.cells #[.int .i64 l1, .int .i64 l2, .int .i64 l3] 67) ⟨g, 0, none⟩ hg2).trans k0
      have hc2 : Chg (fun j => j = g ∨ (Value.slice A1 H.length c1).ownBlock = some j) w wr := (Chg.of_below hb0).trans ((Chg.of_below hbw).mono fun j hj => .inl hj)
      have hwaits := hTr.waits
      have HNE := Lib.hid hTr.ne
      have HLO := Lib.hid hTr.lo
      have hltw := hTr.waits.lt
      clear hTr hBr hbw
      go_wp2_with fail
      go_region_law (first | ((refine step_app2 rfl (.tmp 49) (.tmp 51) _ rfl lo slt_lock (n := nh) (xs := cellsH H) (m := 1) (news := cellsH [⟨l1, l2, l3⟩]) rfl (own_alloc hheld.drew _) rfl (rd_new' _ _ (cellsH [⟨l1, l2, l3⟩]) (by simp) rfl) h1c (by omega) (by simp; omega) ?_; intro v6 w6 hown6 hg6 hat6; obtain ⟨A6, c6, rfl⟩ := own_slice hown6; have hBk6 := (hblk.drew.alloc (.cells (cellsH [⟨l1, l2, l3⟩]).toArray 67)).other (own_alloc hheld.drew _) (by decide) hg6; have p0 := hBk6.cellS (i := 0) (v := .slice A1 nh c1) rfl; have p1 := hBk6.frozen 0)))
      all_goals
        go_wp2
        go_end0
        have hw6 := (own_alloc hwaits.drew (.cells (cellsH [⟨l1, l2, l3⟩]).toArray 67)).kept hg6 (by
          cases hv : v2.ownBlock with
          | none => exact .inl rfl
          | some k2 => exact .inr (fun e => HNE.out k2 ((ob_len A1 _ _ _ _).trans e.symm) hv))
        have hsz : (wr.drew.alloc (.cells (cellsH [⟨l1, l2, l3⟩]).toArray 67)).heap.size = wr.heap.size + 1 := by simp
        refine ⟨_, _, rfl, ⟨hBk6.put 0 _, ?_, own_set_blk hw6 hBk6 (by decide) 0 _, ?_, HLO.out⟩, ?_, ?_⟩
        · rw [HL.out, cellsH_append, List.length_append, HNH.out]
          exact own_set_blk (by simpa using hown6) hBk6 (by decide) 0 _
        · intro j hj
          rcases hat6 with e | e
          · exact HNE.out j ((ob_len A1 _ _ _ _).trans (e.symm.trans hj))
          · intro h2
            have h3 := (hltw j h2).2
            rw [e] at hj
            injection hj with hj
            simp at hj
            omega
        · exact ((hc2.drew.alloc _).grown hg6 (fun j hj => .inl (.inr ((ob_len A1 _ _ _ _).trans hj)))).set (p := ⟨g, 0, none⟩) (.inl (.inl rfl)) _
        · rcases hat6 with e | e
          · exact .inl (e.trans (ob_len A1 _ _ _ _))
          · exact .inr ⟨_, e, by simp; omega⟩
end Go.Proofs.YtbccnafdfeempaaGreatDoor
